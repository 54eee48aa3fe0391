/- The M-code of functions: what their code comes to, read at the heap. PRINTED by gen.py. -/
import Derived.Test.YtjmhahjmbmiepaaTab
namespace Go.Proofs.Ytjmhahjmbmiepaa.D
open Go Go.Proofs
set_option linter.unusedVariables false
set_option linter.unusedSimpArgs false
set_option maxRecDepth 100000
/- 10: spec.PlayBank -/
def M_spec_PlayBank (ap0_1 : Option Addr) (np0_1 cp0_1 : Nat) (ap1_2 : Option Addr) (np1_2 cp1_2 : Nat) (h : Heap) (R : Value → Heap → Prop) : Prop :=
  ∀ h3 : Heap, h3 = newRowH h ty_impl_Bank [.slice none 0 0, .slice none 0 0, .slice none 0 0, .slice none 0 0, .slice none 0 0] →
  CallsH PP fn_spec_NewBank [.slice ap0_1 np0_1 cp0_1] h3 fun (v4 : Value) (h4 : Heap) =>
  ∃ (a16_0_0_5 : Option Addr) (n16_0_0_5 c16_0_0_5 : Nat) (a16_0_1_6 : Option Addr) (n16_0_1_6 c16_0_1_6 : Nat) (a16_0_2_7 : Option Addr) (n16_0_2_7 c16_0_2_7 : Nat) (a16_0_3_8 : Option Addr) (n16_0_3_8 c16_0_3_8 : Nat) (a16_0_4_9 : Option Addr) (n16_0_4_9 c16_0_4_9 : Nat), ∃ (t16_1_10 : Bool), v4 = .tuple ⟨[.agg ⟨[.slice a16_0_0_5 n16_0_0_5 c16_0_0_5, .slice a16_0_1_6 n16_0_1_6 c16_0_1_6, .slice a16_0_2_7 n16_0_2_7 c16_0_2_7, .slice a16_0_3_8 n16_0_3_8 c16_0_3_8, .slice a16_0_4_9 n16_0_4_9 c16_0_4_9]⟩, .bool t16_1_10]⟩ ∧
  ∀ h11 : Heap, h11 = newRowH h4 ty_impl_Bank [.slice none 0 0, .slice none 0 0, .slice none 0 0, .slice none 0 0, .slice none 0 0] →
  ∃ (e12 : TypeId) (c12 : List Value), Row h11 h4.size e12 c12 ∧ 0 + 5 ≤ c12.length ∧
  ∀ h13 : Heap, h13 = putRow h11 h4.size e12 (splice c12 0 [.slice a16_0_0_5 n16_0_0_5 c16_0_0_5, .slice a16_0_1_6 n16_0_1_6 c16_0_1_6, .slice a16_0_2_7 n16_0_2_7 c16_0_2_7, .slice a16_0_3_8 n16_0_3_8 c16_0_3_8, .slice a16_0_4_9 n16_0_4_9 c16_0_4_9]) →
  (((!t16_1_10) = false →
    (((decide ((((np1_2 : Nat) : Int) : Int) > 120)) = true →
      ∃ (e14 : TypeId) (c14 : List Value), Row h13 h.size e14 c14 ∧ 0 + 5 ≤ c14.length ∧
      ∀ h15 : Heap, h15 = putRow h13 h.size e14 (splice c14 0 [.slice none 0 0, .slice none 0 0, .slice none 0 0, .slice none 0 0, .slice none 0 0]) →
      ∃ (ar0_0_16 : Option Addr) (nr0_0_16 cr0_0_16 : Nat), cellAt h15 h.size 0 = some (.slice ar0_0_16 nr0_0_16 cr0_0_16) ∧
      ∃ (ar0_1_17 : Option Addr) (nr0_1_17 cr0_1_17 : Nat), cellAt h15 h.size 1 = some (.slice ar0_1_17 nr0_1_17 cr0_1_17) ∧
      ∃ (ar0_2_18 : Option Addr) (nr0_2_18 cr0_2_18 : Nat), cellAt h15 h.size 2 = some (.slice ar0_2_18 nr0_2_18 cr0_2_18) ∧
      ∃ (ar0_3_19 : Option Addr) (nr0_3_19 cr0_3_19 : Nat), cellAt h15 h.size 3 = some (.slice ar0_3_19 nr0_3_19 cr0_3_19) ∧
      ∃ (ar0_4_20 : Option Addr) (nr0_4_20 cr0_4_20 : Nat), cellAt h15 h.size 4 = some (.slice ar0_4_20 nr0_4_20 cr0_4_20) ∧
      R (.tuple ⟨[.agg ⟨[.slice ar0_0_16 nr0_0_16 cr0_0_16, .slice ar0_1_17 nr0_1_17 cr0_1_17, .slice ar0_2_18 nr0_2_18 cr0_2_18, .slice ar0_3_19 nr0_3_19 cr0_3_19, .slice ar0_4_20 nr0_4_20 cr0_4_20]⟩, .slice none 0 0, .bool false]⟩) h15) ∧
    ((decide ((((np1_2 : Nat) : Int) : Int) > 120)) = false →
      ∃ (I21 : List Value → Heap → Prop) (μ21 : List Value → Heap → Nat), I21 [.slice none 0 0, .int .i64 0] h13 ∧
      ∀ h21 : Heap, ∀ (a9_22 : Option Addr) (n9_22 c9_22 : Nat), ∀ (x29_23 : Int), I21 [.slice a9_22 n9_22 c9_22, .int .i64 x29_23] h21 →
        (((decide ((x29_23 : Int) < ((np1_2 : Nat) : Int))) = true →
          ∃ (b31_24 o31_24 : Nat), ap1_2 = some ⟨b31_24, o31_24, none⟩ ∧ (0 : Int) ≤ x29_23 ∧ (x29_23 : Int) < ((np1_2 : Nat) : Int) ∧
          ∃ (x32_0_25 : Int), cellAt h21 b31_24 (o31_24 + (x29_23.toNat * 4)) = some (.int .i64 x32_0_25) ∧
          ∃ (x32_1_26 : Int), cellAt h21 b31_24 (o31_24 + (x29_23.toNat * 4) + 1) = some (.int .i64 x32_1_26) ∧
          ∃ (x32_2_27 : Int), cellAt h21 b31_24 (o31_24 + (x29_23.toNat * 4) + 2) = some (.int .i64 x32_2_27) ∧
          ∃ (x32_3_28 : Int), cellAt h21 b31_24 (o31_24 + (x29_23.toNat * 4) + 3) = some (.int .i64 x32_3_28) ∧
          ∀ h29 : Heap, h29 = newRowH h21 ty_impl_SnapStep [.int .i64 0, .int .i64 0, .int .i64 0, .int .i64 0] →
          ∃ (e30 : TypeId) (c30 : List Value), Row h29 h21.size e30 c30 ∧ 0 + 4 ≤ c30.length ∧
          ∀ h31 : Heap, h31 = putRow h29 h21.size e30 (splice c30 0 [.int .i64 x32_0_25, .int .i64 x32_1_26, .int .i64 x32_2_27, .int .i64 x32_3_28]) →
          ∃ (a34_0_32 : Option Addr) (n34_0_32 c34_0_32 : Nat), cellAt h31 h4.size 0 = some (.slice a34_0_32 n34_0_32 c34_0_32) ∧
          ∃ (a34_1_33 : Option Addr) (n34_1_33 c34_1_33 : Nat), cellAt h31 h4.size 1 = some (.slice a34_1_33 n34_1_33 c34_1_33) ∧
          ∃ (a34_2_34 : Option Addr) (n34_2_34 c34_2_34 : Nat), cellAt h31 h4.size 2 = some (.slice a34_2_34 n34_2_34 c34_2_34) ∧
          ∃ (a34_3_35 : Option Addr) (n34_3_35 c34_3_35 : Nat), cellAt h31 h4.size 3 = some (.slice a34_3_35 n34_3_35 c34_3_35) ∧
          ∃ (a34_4_36 : Option Addr) (n34_4_36 c34_4_36 : Nat), cellAt h31 h4.size 4 = some (.slice a34_4_36 n34_4_36 c34_4_36) ∧
          ∃ (x36_0_37 : Int), cellAt h31 h21.size 0 = some (.int .i64 x36_0_37) ∧
          ∃ (x36_1_38 : Int), cellAt h31 h21.size 1 = some (.int .i64 x36_1_38) ∧
          ∃ (x36_2_39 : Int), cellAt h31 h21.size 2 = some (.int .i64 x36_2_39) ∧
          ∃ (x36_3_40 : Int), cellAt h31 h21.size 3 = some (.int .i64 x36_3_40) ∧
          ((CallsH PP fn_spec_l12Own [.agg ⟨[.slice a34_0_32 n34_0_32 c34_0_32, .slice a34_1_33 n34_1_33 c34_1_33, .slice a34_2_34 n34_2_34 c34_2_34, .slice a34_3_35 n34_3_35 c34_3_35, .slice a34_4_36 n34_4_36 c34_4_36]⟩] h31 fun (v68 : Value) (h68 : Heap) =>
            ∃ (a35_0_69 : Option Addr) (n35_0_69 c35_0_69 : Nat) (a35_1_70 : Option Addr) (n35_1_70 c35_1_70 : Nat) (a35_2_71 : Option Addr) (n35_2_71 c35_2_71 : Nat) (a35_3_72 : Option Addr) (n35_3_72 c35_3_72 : Nat) (a35_4_73 : Option Addr) (n35_4_73 c35_4_73 : Nat), v68 = .agg ⟨[.slice a35_0_69 n35_0_69 c35_0_69, .slice a35_1_70 n35_1_70 c35_1_70, .slice a35_2_71 n35_2_71 c35_2_71, .slice a35_3_72 n35_3_72 c35_3_72, .slice a35_4_73 n35_4_73 c35_4_73]⟩ ∧
            cellAt h68 h21.size 0 = some (.int .i64 x36_0_37) ∧
            cellAt h68 h21.size 1 = some (.int .i64 x36_1_38) ∧
            cellAt h68 h21.size 2 = some (.int .i64 x36_2_39) ∧
            cellAt h68 h21.size 3 = some (.int .i64 x36_3_40) ∧
            ((CallsH PP fn_spec_l12Step [.agg ⟨[.slice a35_0_69 n35_0_69 c35_0_69, .slice a35_1_70 n35_1_70 c35_1_70, .slice a35_2_71 n35_2_71 c35_2_71, .slice a35_3_72 n35_3_72 c35_3_72, .slice a35_4_73 n35_4_73 c35_4_73]⟩, .agg ⟨[.int .i64 x36_0_37, .int .i64 x36_1_38, .int .i64 x36_2_39, .int .i64 x36_3_40]⟩] h68 fun (v95 : Value) (h95 : Heap) =>
              ∃ (a37_0_0_96 : Option Addr) (n37_0_0_96 c37_0_0_96 : Nat) (a37_0_1_97 : Option Addr) (n37_0_1_97 c37_0_1_97 : Nat) (a37_0_2_98 : Option Addr) (n37_0_2_98 c37_0_2_98 : Nat) (a37_0_3_99 : Option Addr) (n37_0_3_99 c37_0_3_99 : Nat) (a37_0_4_100 : Option Addr) (n37_0_4_100 c37_0_4_100 : Nat), ∃ (t37_1_101 : Bool), v95 = .tuple ⟨[.agg ⟨[.slice a37_0_0_96 n37_0_0_96 c37_0_0_96, .slice a37_0_1_97 n37_0_1_97 c37_0_1_97, .slice a37_0_2_98 n37_0_2_98 c37_0_2_98, .slice a37_0_3_99 n37_0_3_99 c37_0_3_99, .slice a37_0_4_100 n37_0_4_100 c37_0_4_100]⟩, .bool t37_1_101]⟩ ∧
              ∀ h102 : Heap, h102 = newRowH h95 ty_impl_Bank [.slice none 0 0, .slice none 0 0, .slice none 0 0, .slice none 0 0, .slice none 0 0] →
              ∃ (e103 : TypeId) (c103 : List Value), Row h102 h95.size e103 c103 ∧ 0 + 5 ≤ c103.length ∧
              ∀ h104 : Heap, h104 = putRow h102 h95.size e103 (splice c103 0 [.slice a37_0_0_96 n37_0_0_96 c37_0_0_96, .slice a37_0_1_97 n37_0_1_97 c37_0_1_97, .slice a37_0_2_98 n37_0_2_98 c37_0_2_98, .slice a37_0_3_99 n37_0_3_99 c37_0_3_99, .slice a37_0_4_100 n37_0_4_100 c37_0_4_100]) →
              ((t37_1_101 = true →
                ∃ (a41_0_105 : Option Addr) (n41_0_105 c41_0_105 : Nat), cellAt h104 h95.size 0 = some (.slice a41_0_105 n41_0_105 c41_0_105) ∧
                ∃ (a41_1_106 : Option Addr) (n41_1_106 c41_1_106 : Nat), cellAt h104 h95.size 1 = some (.slice a41_1_106 n41_1_106 c41_1_106) ∧
                ∃ (a41_2_107 : Option Addr) (n41_2_107 c41_2_107 : Nat), cellAt h104 h95.size 2 = some (.slice a41_2_107 n41_2_107 c41_2_107) ∧
                ∃ (a41_3_108 : Option Addr) (n41_3_108 c41_3_108 : Nat), cellAt h104 h95.size 3 = some (.slice a41_3_108 n41_3_108 c41_3_108) ∧
                ∃ (a41_4_109 : Option Addr) (n41_4_109 c41_4_109 : Nat), cellAt h104 h95.size 4 = some (.slice a41_4_109 n41_4_109 c41_4_109) ∧
                ∃ (e110 : TypeId) (c110 : List Value), Row h104 h4.size e110 c110 ∧ 0 + 5 ≤ c110.length ∧
                ∀ h111 : Heap, h111 = putRow h104 h4.size e110 (splice c110 0 [.slice a41_0_105 n41_0_105 c41_0_105, .slice a41_1_106 n41_1_106 c41_1_106, .slice a41_2_107 n41_2_107 c41_2_107, .slice a41_3_108 n41_3_108 c41_3_108, .slice a41_4_109 n41_4_109 c41_4_109]) →
                ∀ h112 : Heap, h112 = newRowH h111 ty_bool [.bool t37_1_101] →
                appendH h112 ty_bool 1 [.bool false] a9_22 n9_22 c9_22 (some ⟨h111.size, 0, none⟩) 1 fun (a45_113 : Option Addr) (n45_113 c45_113 : Nat) (h113 : Heap) =>
                I21 [.slice a45_113 n45_113 c45_113, .int .i64 (IntKind.i64.wrap (x29_23 + 1))] h113 ∧ μ21 [.slice a45_113 n45_113 c45_113, .int .i64 (IntKind.i64.wrap (x29_23 + 1))] h113 < μ21 [.slice a9_22 n9_22 c9_22, .int .i64 x29_23] h21) ∧
              (t37_1_101 = false →
                ∀ h114 : Heap, h114 = newRowH h104 ty_bool [.bool t37_1_101] →
                appendH h114 ty_bool 1 [.bool false] a9_22 n9_22 c9_22 (some ⟨h104.size, 0, none⟩) 1 fun (a45_115 : Option Addr) (n45_115 c45_115 : Nat) (h115 : Heap) =>
                I21 [.slice a45_115 n45_115 c45_115, .int .i64 (IntKind.i64.wrap (x29_23 + 1))] h115 ∧ μ21 [.slice a45_115 n45_115 c45_115, .int .i64 (IntKind.i64.wrap (x29_23 + 1))] h115 < μ21 [.slice a9_22 n9_22 c9_22, .int .i64 x29_23] h21))) ∧
            (∀ h74 : Heap, h74 = newRowH h68 ty_impl_Bank [.slice none 0 0, .slice none 0 0, .slice none 0 0, .slice none 0 0, .slice none 0 0] →
              cellAt h74 h21.size 0 = some (.int .i64 x36_0_37) ∧
              cellAt h74 h21.size 1 = some (.int .i64 x36_1_38) ∧
              cellAt h74 h21.size 2 = some (.int .i64 x36_2_39) ∧
              cellAt h74 h21.size 3 = some (.int .i64 x36_3_40) ∧
              CallsH PP fn_spec_l12Step [.agg ⟨[.slice a35_0_69 n35_0_69 c35_0_69, .slice a35_1_70 n35_1_70 c35_1_70, .slice a35_2_71 n35_2_71 c35_2_71, .slice a35_3_72 n35_3_72 c35_3_72, .slice a35_4_73 n35_4_73 c35_4_73]⟩, .agg ⟨[.int .i64 x36_0_37, .int .i64 x36_1_38, .int .i64 x36_2_39, .int .i64 x36_3_40]⟩] h74 fun (v75 : Value) (h75 : Heap) =>
              ∃ (a37_0_0_76 : Option Addr) (n37_0_0_76 c37_0_0_76 : Nat) (a37_0_1_77 : Option Addr) (n37_0_1_77 c37_0_1_77 : Nat) (a37_0_2_78 : Option Addr) (n37_0_2_78 c37_0_2_78 : Nat) (a37_0_3_79 : Option Addr) (n37_0_3_79 c37_0_3_79 : Nat) (a37_0_4_80 : Option Addr) (n37_0_4_80 c37_0_4_80 : Nat), ∃ (t37_1_81 : Bool), v75 = .tuple ⟨[.agg ⟨[.slice a37_0_0_76 n37_0_0_76 c37_0_0_76, .slice a37_0_1_77 n37_0_1_77 c37_0_1_77, .slice a37_0_2_78 n37_0_2_78 c37_0_2_78, .slice a37_0_3_79 n37_0_3_79 c37_0_3_79, .slice a37_0_4_80 n37_0_4_80 c37_0_4_80]⟩, .bool t37_1_81]⟩ ∧
              ∃ (e82 : TypeId) (c82 : List Value), Row h75 h68.size e82 c82 ∧ 0 + 5 ≤ c82.length ∧
              ∀ h83 : Heap, h83 = putRow h75 h68.size e82 (splice c82 0 [.slice a37_0_0_76 n37_0_0_76 c37_0_0_76, .slice a37_0_1_77 n37_0_1_77 c37_0_1_77, .slice a37_0_2_78 n37_0_2_78 c37_0_2_78, .slice a37_0_3_79 n37_0_3_79 c37_0_3_79, .slice a37_0_4_80 n37_0_4_80 c37_0_4_80]) →
              ((t37_1_81 = true →
                ∃ (a41_0_84 : Option Addr) (n41_0_84 c41_0_84 : Nat), cellAt h83 h68.size 0 = some (.slice a41_0_84 n41_0_84 c41_0_84) ∧
                ∃ (a41_1_85 : Option Addr) (n41_1_85 c41_1_85 : Nat), cellAt h83 h68.size 1 = some (.slice a41_1_85 n41_1_85 c41_1_85) ∧
                ∃ (a41_2_86 : Option Addr) (n41_2_86 c41_2_86 : Nat), cellAt h83 h68.size 2 = some (.slice a41_2_86 n41_2_86 c41_2_86) ∧
                ∃ (a41_3_87 : Option Addr) (n41_3_87 c41_3_87 : Nat), cellAt h83 h68.size 3 = some (.slice a41_3_87 n41_3_87 c41_3_87) ∧
                ∃ (a41_4_88 : Option Addr) (n41_4_88 c41_4_88 : Nat), cellAt h83 h68.size 4 = some (.slice a41_4_88 n41_4_88 c41_4_88) ∧
                ∃ (e89 : TypeId) (c89 : List Value), Row h83 h4.size e89 c89 ∧ 0 + 5 ≤ c89.length ∧
                ∀ h90 : Heap, h90 = putRow h83 h4.size e89 (splice c89 0 [.slice a41_0_84 n41_0_84 c41_0_84, .slice a41_1_85 n41_1_85 c41_1_85, .slice a41_2_86 n41_2_86 c41_2_86, .slice a41_3_87 n41_3_87 c41_3_87, .slice a41_4_88 n41_4_88 c41_4_88]) →
                ∀ h91 : Heap, h91 = newRowH h90 ty_bool [.bool t37_1_81] →
                appendH h91 ty_bool 1 [.bool false] a9_22 n9_22 c9_22 (some ⟨h90.size, 0, none⟩) 1 fun (a45_92 : Option Addr) (n45_92 c45_92 : Nat) (h92 : Heap) =>
                I21 [.slice a45_92 n45_92 c45_92, .int .i64 (IntKind.i64.wrap (x29_23 + 1))] h92 ∧ μ21 [.slice a45_92 n45_92 c45_92, .int .i64 (IntKind.i64.wrap (x29_23 + 1))] h92 < μ21 [.slice a9_22 n9_22 c9_22, .int .i64 x29_23] h21) ∧
              (t37_1_81 = false →
                ∀ h93 : Heap, h93 = newRowH h83 ty_bool [.bool t37_1_81] →
                appendH h93 ty_bool 1 [.bool false] a9_22 n9_22 c9_22 (some ⟨h83.size, 0, none⟩) 1 fun (a45_94 : Option Addr) (n45_94 c45_94 : Nat) (h94 : Heap) =>
                I21 [.slice a45_94 n45_94 c45_94, .int .i64 (IntKind.i64.wrap (x29_23 + 1))] h94 ∧ μ21 [.slice a45_94 n45_94 c45_94, .int .i64 (IntKind.i64.wrap (x29_23 + 1))] h94 < μ21 [.slice a9_22 n9_22 c9_22, .int .i64 x29_23] h21))))) ∧
          (∀ h41 : Heap, h41 = newRowH h31 ty_impl_Bank [.slice none 0 0, .slice none 0 0, .slice none 0 0, .slice none 0 0, .slice none 0 0] →
            cellAt h41 h21.size 0 = some (.int .i64 x36_0_37) ∧
            cellAt h41 h21.size 1 = some (.int .i64 x36_1_38) ∧
            cellAt h41 h21.size 2 = some (.int .i64 x36_2_39) ∧
            cellAt h41 h21.size 3 = some (.int .i64 x36_3_40) ∧
            cellAt h41 h4.size 0 = some (.slice a34_0_32 n34_0_32 c34_0_32) ∧
            cellAt h41 h4.size 1 = some (.slice a34_1_33 n34_1_33 c34_1_33) ∧
            cellAt h41 h4.size 2 = some (.slice a34_2_34 n34_2_34 c34_2_34) ∧
            cellAt h41 h4.size 3 = some (.slice a34_3_35 n34_3_35 c34_3_35) ∧
            cellAt h41 h4.size 4 = some (.slice a34_4_36 n34_4_36 c34_4_36) ∧
            CallsH PP fn_spec_l12Own [.agg ⟨[.slice a34_0_32 n34_0_32 c34_0_32, .slice a34_1_33 n34_1_33 c34_1_33, .slice a34_2_34 n34_2_34 c34_2_34, .slice a34_3_35 n34_3_35 c34_3_35, .slice a34_4_36 n34_4_36 c34_4_36]⟩] h41 fun (v42 : Value) (h42 : Heap) =>
            ∃ (a35_0_43 : Option Addr) (n35_0_43 c35_0_43 : Nat) (a35_1_44 : Option Addr) (n35_1_44 c35_1_44 : Nat) (a35_2_45 : Option Addr) (n35_2_45 c35_2_45 : Nat) (a35_3_46 : Option Addr) (n35_3_46 c35_3_46 : Nat) (a35_4_47 : Option Addr) (n35_4_47 c35_4_47 : Nat), v42 = .agg ⟨[.slice a35_0_43 n35_0_43 c35_0_43, .slice a35_1_44 n35_1_44 c35_1_44, .slice a35_2_45 n35_2_45 c35_2_45, .slice a35_3_46 n35_3_46 c35_3_46, .slice a35_4_47 n35_4_47 c35_4_47]⟩ ∧
            cellAt h42 h21.size 0 = some (.int .i64 x36_0_37) ∧
            cellAt h42 h21.size 1 = some (.int .i64 x36_1_38) ∧
            cellAt h42 h21.size 2 = some (.int .i64 x36_2_39) ∧
            cellAt h42 h21.size 3 = some (.int .i64 x36_3_40) ∧
            CallsH PP fn_spec_l12Step [.agg ⟨[.slice a35_0_43 n35_0_43 c35_0_43, .slice a35_1_44 n35_1_44 c35_1_44, .slice a35_2_45 n35_2_45 c35_2_45, .slice a35_3_46 n35_3_46 c35_3_46, .slice a35_4_47 n35_4_47 c35_4_47]⟩, .agg ⟨[.int .i64 x36_0_37, .int .i64 x36_1_38, .int .i64 x36_2_39, .int .i64 x36_3_40]⟩] h42 fun (v48 : Value) (h48 : Heap) =>
            ∃ (a37_0_0_49 : Option Addr) (n37_0_0_49 c37_0_0_49 : Nat) (a37_0_1_50 : Option Addr) (n37_0_1_50 c37_0_1_50 : Nat) (a37_0_2_51 : Option Addr) (n37_0_2_51 c37_0_2_51 : Nat) (a37_0_3_52 : Option Addr) (n37_0_3_52 c37_0_3_52 : Nat) (a37_0_4_53 : Option Addr) (n37_0_4_53 c37_0_4_53 : Nat), ∃ (t37_1_54 : Bool), v48 = .tuple ⟨[.agg ⟨[.slice a37_0_0_49 n37_0_0_49 c37_0_0_49, .slice a37_0_1_50 n37_0_1_50 c37_0_1_50, .slice a37_0_2_51 n37_0_2_51 c37_0_2_51, .slice a37_0_3_52 n37_0_3_52 c37_0_3_52, .slice a37_0_4_53 n37_0_4_53 c37_0_4_53]⟩, .bool t37_1_54]⟩ ∧
            ∃ (e55 : TypeId) (c55 : List Value), Row h48 h31.size e55 c55 ∧ 0 + 5 ≤ c55.length ∧
            ∀ h56 : Heap, h56 = putRow h48 h31.size e55 (splice c55 0 [.slice a37_0_0_49 n37_0_0_49 c37_0_0_49, .slice a37_0_1_50 n37_0_1_50 c37_0_1_50, .slice a37_0_2_51 n37_0_2_51 c37_0_2_51, .slice a37_0_3_52 n37_0_3_52 c37_0_3_52, .slice a37_0_4_53 n37_0_4_53 c37_0_4_53]) →
            ((t37_1_54 = true →
              ∃ (a41_0_57 : Option Addr) (n41_0_57 c41_0_57 : Nat), cellAt h56 h31.size 0 = some (.slice a41_0_57 n41_0_57 c41_0_57) ∧
              ∃ (a41_1_58 : Option Addr) (n41_1_58 c41_1_58 : Nat), cellAt h56 h31.size 1 = some (.slice a41_1_58 n41_1_58 c41_1_58) ∧
              ∃ (a41_2_59 : Option Addr) (n41_2_59 c41_2_59 : Nat), cellAt h56 h31.size 2 = some (.slice a41_2_59 n41_2_59 c41_2_59) ∧
              ∃ (a41_3_60 : Option Addr) (n41_3_60 c41_3_60 : Nat), cellAt h56 h31.size 3 = some (.slice a41_3_60 n41_3_60 c41_3_60) ∧
              ∃ (a41_4_61 : Option Addr) (n41_4_61 c41_4_61 : Nat), cellAt h56 h31.size 4 = some (.slice a41_4_61 n41_4_61 c41_4_61) ∧
              ∃ (e62 : TypeId) (c62 : List Value), Row h56 h4.size e62 c62 ∧ 0 + 5 ≤ c62.length ∧
              ∀ h63 : Heap, h63 = putRow h56 h4.size e62 (splice c62 0 [.slice a41_0_57 n41_0_57 c41_0_57, .slice a41_1_58 n41_1_58 c41_1_58, .slice a41_2_59 n41_2_59 c41_2_59, .slice a41_3_60 n41_3_60 c41_3_60, .slice a41_4_61 n41_4_61 c41_4_61]) →
              ∀ h64 : Heap, h64 = newRowH h63 ty_bool [.bool t37_1_54] →
              appendH h64 ty_bool 1 [.bool false] a9_22 n9_22 c9_22 (some ⟨h63.size, 0, none⟩) 1 fun (a45_65 : Option Addr) (n45_65 c45_65 : Nat) (h65 : Heap) =>
              I21 [.slice a45_65 n45_65 c45_65, .int .i64 (IntKind.i64.wrap (x29_23 + 1))] h65 ∧ μ21 [.slice a45_65 n45_65 c45_65, .int .i64 (IntKind.i64.wrap (x29_23 + 1))] h65 < μ21 [.slice a9_22 n9_22 c9_22, .int .i64 x29_23] h21) ∧
            (t37_1_54 = false →
              ∀ h66 : Heap, h66 = newRowH h56 ty_bool [.bool t37_1_54] →
              appendH h66 ty_bool 1 [.bool false] a9_22 n9_22 c9_22 (some ⟨h56.size, 0, none⟩) 1 fun (a45_67 : Option Addr) (n45_67 c45_67 : Nat) (h67 : Heap) =>
              I21 [.slice a45_67 n45_67 c45_67, .int .i64 (IntKind.i64.wrap (x29_23 + 1))] h67 ∧ μ21 [.slice a45_67 n45_67 c45_67, .int .i64 (IntKind.i64.wrap (x29_23 + 1))] h67 < μ21 [.slice a9_22 n9_22 c9_22, .int .i64 x29_23] h21))))) ∧
        ((decide ((x29_23 : Int) < ((np1_2 : Nat) : Int))) = false →
          ∃ (a47_0_116 : Option Addr) (n47_0_116 c47_0_116 : Nat), cellAt h21 h4.size 0 = some (.slice a47_0_116 n47_0_116 c47_0_116) ∧
          ∃ (a47_1_117 : Option Addr) (n47_1_117 c47_1_117 : Nat), cellAt h21 h4.size 1 = some (.slice a47_1_117 n47_1_117 c47_1_117) ∧
          ∃ (a47_2_118 : Option Addr) (n47_2_118 c47_2_118 : Nat), cellAt h21 h4.size 2 = some (.slice a47_2_118 n47_2_118 c47_2_118) ∧
          ∃ (a47_3_119 : Option Addr) (n47_3_119 c47_3_119 : Nat), cellAt h21 h4.size 3 = some (.slice a47_3_119 n47_3_119 c47_3_119) ∧
          ∃ (a47_4_120 : Option Addr) (n47_4_120 c47_4_120 : Nat), cellAt h21 h4.size 4 = some (.slice a47_4_120 n47_4_120 c47_4_120) ∧
          CallsH PP fn_spec_l12Own [.agg ⟨[.slice a47_0_116 n47_0_116 c47_0_116, .slice a47_1_117 n47_1_117 c47_1_117, .slice a47_2_118 n47_2_118 c47_2_118, .slice a47_3_119 n47_3_119 c47_3_119, .slice a47_4_120 n47_4_120 c47_4_120]⟩] h21 fun (v121 : Value) (h121 : Heap) =>
          ∃ (a48_0_122 : Option Addr) (n48_0_122 c48_0_122 : Nat) (a48_1_123 : Option Addr) (n48_1_123 c48_1_123 : Nat) (a48_2_124 : Option Addr) (n48_2_124 c48_2_124 : Nat) (a48_3_125 : Option Addr) (n48_3_125 c48_3_125 : Nat) (a48_4_126 : Option Addr) (n48_4_126 c48_4_126 : Nat), v121 = .agg ⟨[.slice a48_0_122 n48_0_122 c48_0_122, .slice a48_1_123 n48_1_123 c48_1_123, .slice a48_2_124 n48_2_124 c48_2_124, .slice a48_3_125 n48_3_125 c48_3_125, .slice a48_4_126 n48_4_126 c48_4_126]⟩ ∧
          ∃ (e127 : TypeId) (c127 : List Value), Row h121 h.size e127 c127 ∧ 0 + 5 ≤ c127.length ∧
          ∀ h128 : Heap, h128 = putRow h121 h.size e127 (splice c127 0 [.slice a48_0_122 n48_0_122 c48_0_122, .slice a48_1_123 n48_1_123 c48_1_123, .slice a48_2_124 n48_2_124 c48_2_124, .slice a48_3_125 n48_3_125 c48_3_125, .slice a48_4_126 n48_4_126 c48_4_126]) →
          ∃ (ar0_0_129 : Option Addr) (nr0_0_129 cr0_0_129 : Nat), cellAt h128 h.size 0 = some (.slice ar0_0_129 nr0_0_129 cr0_0_129) ∧
          ∃ (ar0_1_130 : Option Addr) (nr0_1_130 cr0_1_130 : Nat), cellAt h128 h.size 1 = some (.slice ar0_1_130 nr0_1_130 cr0_1_130) ∧
          ∃ (ar0_2_131 : Option Addr) (nr0_2_131 cr0_2_131 : Nat), cellAt h128 h.size 2 = some (.slice ar0_2_131 nr0_2_131 cr0_2_131) ∧
          ∃ (ar0_3_132 : Option Addr) (nr0_3_132 cr0_3_132 : Nat), cellAt h128 h.size 3 = some (.slice ar0_3_132 nr0_3_132 cr0_3_132) ∧
          ∃ (ar0_4_133 : Option Addr) (nr0_4_133 cr0_4_133 : Nat), cellAt h128 h.size 4 = some (.slice ar0_4_133 nr0_4_133 cr0_4_133) ∧
          R (.tuple ⟨[.agg ⟨[.slice ar0_0_129 nr0_0_129 cr0_0_129, .slice ar0_1_130 nr0_1_130 cr0_1_130, .slice ar0_2_131 nr0_2_131 cr0_2_131, .slice ar0_3_132 nr0_3_132 cr0_3_132, .slice ar0_4_133 nr0_4_133 cr0_4_133]⟩, .slice a9_22 n9_22 c9_22, .bool true]⟩) h128))))) ∧
  ((!t16_1_10) = true →
    ∃ (e134 : TypeId) (c134 : List Value), Row h13 h.size e134 c134 ∧ 0 + 5 ≤ c134.length ∧
    ∀ h135 : Heap, h135 = putRow h13 h.size e134 (splice c134 0 [.slice none 0 0, .slice none 0 0, .slice none 0 0, .slice none 0 0, .slice none 0 0]) →
    ∃ (ar0_0_136 : Option Addr) (nr0_0_136 cr0_0_136 : Nat), cellAt h135 h.size 0 = some (.slice ar0_0_136 nr0_0_136 cr0_0_136) ∧
    ∃ (ar0_1_137 : Option Addr) (nr0_1_137 cr0_1_137 : Nat), cellAt h135 h.size 1 = some (.slice ar0_1_137 nr0_1_137 cr0_1_137) ∧
    ∃ (ar0_2_138 : Option Addr) (nr0_2_138 cr0_2_138 : Nat), cellAt h135 h.size 2 = some (.slice ar0_2_138 nr0_2_138 cr0_2_138) ∧
    ∃ (ar0_3_139 : Option Addr) (nr0_3_139 cr0_3_139 : Nat), cellAt h135 h.size 3 = some (.slice ar0_3_139 nr0_3_139 cr0_3_139) ∧
    ∃ (ar0_4_140 : Option Addr) (nr0_4_140 cr0_4_140 : Nat), cellAt h135 h.size 4 = some (.slice ar0_4_140 nr0_4_140 cr0_4_140) ∧
    R (.tuple ⟨[.agg ⟨[.slice ar0_0_136 nr0_0_136 cr0_0_136, .slice ar0_1_137 nr0_1_137 cr0_1_137, .slice ar0_2_138 nr0_2_138 cr0_2_138, .slice ar0_3_139 nr0_3_139 cr0_3_139, .slice ar0_4_140 nr0_4_140 cr0_4_140]⟩, .slice none 0 0, .bool false]⟩) h135))
def plan_spec_PlayBank : Plan := .seq none (.leaf) (.seq none (.leaf) (.seq none (.seq none (.leaf) (.cond (.seq none (.leaf) (.leaf)) (.leaf))) (.seq none (.leaf) (.seq none (.seq none (.leaf) (.block (.loop [(9, .l (.slice)), (29, .l (.int .i64))] (.seq none (.leaf) (.seq none (.cond (.leaf) (.leaf)) (.seq none (.block (.seq none (.leaf) (.seq none (.draw (.op 0 (.op 2 (.fork (.op 1 (.fork (.op 3 (.op 4 (.op 5 (.op 6 (.op 7 (.op 8 (.op 9 .done))))))) (.op 7 (.op 3 (.op 4 (.op 5 (.op 6 (.op 8 (.op 9 .done))))))))) (.op 7 (.op 1 (.op 3 (.op 4 (.op 5 (.op 6 (.op 8 (.op 9 .done)))))))))))) (.seq none (.seq none (.leaf) (.cond (.leaf) (.leaf))) (.leaf))))) (.leaf))))))) (.seq none (.leaf) (.leaf))))))
theorem tie_spec_PlayBank : (fun (ap0_1 : Option Addr) (np0_1 cp0_1 : Nat) (ap1_2 : Option Addr) (np1_2 cp1_2 : Nat) (h : Heap) (R : Value → Heap → Prop) => denF X0 Try.f10 (bodyOf Try.f10) plan_spec_PlayBank [.l (.sl ap0_1 np0_1 cp0_1), .l (.sl ap1_2 np1_2 cp1_2)] h R) = M_spec_PlayBank := by kernel_rfl
theorem calls_spec_PlayBank (ap0_1 : Option Addr) (np0_1 cp0_1 : Nat) (ap1_2 : Option Addr) (np1_2 cp1_2 : Nat) {h : Heap} {R : Value → Heap → Prop} (hm : M_spec_PlayBank ap0_1 np0_1 cp0_1 ap1_2 np1_2 cp1_2 h R) : CallsH PP fn_spec_PlayBank [.slice ap0_1 np0_1 cp0_1, .slice ap1_2 np1_2 cp1_2] h R :=
  callsH_of X0ok Try.func10 (by kernel_rfl) plan_spec_PlayBank [.l (.sl ap0_1 np0_1 cp0_1), .l (.sl ap1_2 np1_2 cp1_2)] (Eq.mpr (congrFun (congrFun (congrFun (congrFun (congrFun (congrFun (congrFun (congrFun tie_spec_PlayBank ap0_1) np0_1) cp0_1) ap1_2) np1_2) cp1_2) h) R) hm)
/- 81: spec.NewBank -/
def M_spec_NewBank (ap0_1 : Option Addr) (np0_1 cp0_1 : Nat) (h : Heap) (R : Value → Heap → Prop) : Prop :=
  ∀ h2 : Heap, h2 = newRowH h ty_impl_Bank [.slice none 0 0, .slice none 0 0, .slice none 0 0, .slice none 0 0, .slice none 0 0] →
  CallsH PP fn_spec_l1In [.int .i64 ((np0_1 : Nat) : Int), .int .i64 1, .int .i64 5] h2 fun (v3 : Value) (h3 : Heap) =>
  ∃ (t10_4 : Bool), v3 = .bool t10_4 ∧
  (((!t10_4) = false →
    CallsH PP fn_spec_l1All [.slice ap0_1 np0_1 cp0_1, .int .i64 0, .int .i64 50] h3 fun (v5 : Value) (h5 : Heap) =>
    ∃ (t14_6 : Bool), v5 = .bool t14_6 ∧
    (((!t14_6) = true →
      ∃ (e7 : TypeId) (c7 : List Value), Row h5 h.size e7 c7 ∧ 0 + 5 ≤ c7.length ∧
      ∀ h8 : Heap, h8 = putRow h5 h.size e7 (splice c7 0 [.slice none 0 0, .slice none 0 0, .slice none 0 0, .slice none 0 0, .slice none 0 0]) →
      ∃ (ar0_0_9 : Option Addr) (nr0_0_9 cr0_0_9 : Nat), cellAt h8 h.size 0 = some (.slice ar0_0_9 nr0_0_9 cr0_0_9) ∧
      ∃ (ar0_1_10 : Option Addr) (nr0_1_10 cr0_1_10 : Nat), cellAt h8 h.size 1 = some (.slice ar0_1_10 nr0_1_10 cr0_1_10) ∧
      ∃ (ar0_2_11 : Option Addr) (nr0_2_11 cr0_2_11 : Nat), cellAt h8 h.size 2 = some (.slice ar0_2_11 nr0_2_11 cr0_2_11) ∧
      ∃ (ar0_3_12 : Option Addr) (nr0_3_12 cr0_3_12 : Nat), cellAt h8 h.size 3 = some (.slice ar0_3_12 nr0_3_12 cr0_3_12) ∧
      ∃ (ar0_4_13 : Option Addr) (nr0_4_13 cr0_4_13 : Nat), cellAt h8 h.size 4 = some (.slice ar0_4_13 nr0_4_13 cr0_4_13) ∧
      R (.tuple ⟨[.agg ⟨[.slice ar0_0_9 nr0_0_9 cr0_0_9, .slice ar0_1_10 nr0_1_10 cr0_1_10, .slice ar0_2_11 nr0_2_11 cr0_2_11, .slice ar0_3_12 nr0_3_12 cr0_3_12, .slice ar0_4_13 nr0_4_13 cr0_4_13]⟩, .bool false]⟩) h8) ∧
    ((!t14_6) = false →
      ∀ (K14 : List Value → Heap → Prop), (∀ h14 : Heap, ∀ (b5_15 o5_15 : Nat), (
        ∃ (I16 : List Value → Heap → Prop) (μ16 : List Value → Heap → Nat), I16 [.int .i64 0] h14 ∧
        ∀ h16 : Heap, ∀ (x6_17 : Int), I16 [.int .i64 x6_17] h16 →
          (((decide ((x6_17 : Int) < ((np0_1 : Nat) : Int))) = true →
            ∃ (a32_18 : Option Addr) (n32_18 c32_18 : Nat), cellAt h16 b5_15 (o5_15 + 2) = some (.slice a32_18 n32_18 c32_18) ∧
            ∀ h19 : Heap, h19 = newRowH h16 ty_int [.int .i64 (-1)] →
            appendH h19 ty_int 1 [.int .i64 0] a32_18 n32_18 c32_18 (some ⟨h16.size, 0, none⟩) 1 fun (a34_20 : Option Addr) (n34_20 c34_20 : Nat) (h20 : Heap) =>
            ∃ (e21 : TypeId) (c21 : List Value), Row h20 b5_15 e21 c21 ∧ o5_15 + 2 < c21.length ∧
            ∀ h22 : Heap, h22 = putRow h20 b5_15 e21 (c21.set (o5_15 + 2) (.slice a34_20 n34_20 c34_20)) →
            ∃ (a37_23 : Option Addr) (n37_23 c37_23 : Nat), cellAt h22 b5_15 (o5_15 + 3) = some (.slice a37_23 n37_23 c37_23) ∧
            0 ≤ ((np0_1 : Nat) : Int) ∧ ((np0_1 : Nat) : Int) ≤ ((np0_1 : Nat) : Int) ∧ ((np0_1 : Nat) : Int) ≤ 1099511627776 ∧ ((1 : Nat) : Int) * ((np0_1 : Nat) : Int) ≤ 281474976710656 ∧
            ∀ h24 : Heap, h24 = newRowH h22 ty_bool (repl [.bool false] np0_1) →
            cellAt h24 b5_15 (o5_15 + 3) = some (.slice a37_23 n37_23 c37_23) ∧
            ∀ h25 : Heap, h25 = newRowH h24 ty_S_bool [.slice (some ⟨h22.size, 0, none⟩) np0_1 np0_1] →
            cellAt h25 b5_15 (o5_15 + 3) = some (.slice a37_23 n37_23 c37_23) ∧
            appendH h25 ty_S_bool 1 [.slice none 0 0] a37_23 n37_23 c37_23 (some ⟨h24.size, 0, none⟩) 1 fun (a41_26 : Option Addr) (n41_26 c41_26 : Nat) (h26 : Heap) =>
            ∃ (e27 : TypeId) (c27 : List Value), Row h26 b5_15 e27 c27 ∧ o5_15 + 3 < c27.length ∧
            ∀ h28 : Heap, h28 = putRow h26 b5_15 e27 (c27.set (o5_15 + 3) (.slice a41_26 n41_26 c41_26)) →
            ∃ (a44_29 : Option Addr) (n44_29 c44_29 : Nat), cellAt h28 b5_15 (o5_15 + 4) = some (.slice a44_29 n44_29 c44_29) ∧
            0 ≤ ((np0_1 : Nat) : Int) ∧ ((np0_1 : Nat) : Int) ≤ ((np0_1 : Nat) : Int) ∧ ((np0_1 : Nat) : Int) ≤ 1099511627776 ∧ ((8 : Nat) : Int) * ((np0_1 : Nat) : Int) ≤ 281474976710656 ∧
            ∀ h30 : Heap, h30 = newRowH h28 ty_int (repl [.int .i64 0] np0_1) →
            cellAt h30 b5_15 (o5_15 + 4) = some (.slice a44_29 n44_29 c44_29) ∧
            ∀ h31 : Heap, h31 = newRowH h30 ty_S_int [.slice (some ⟨h28.size, 0, none⟩) np0_1 np0_1] →
            cellAt h31 b5_15 (o5_15 + 4) = some (.slice a44_29 n44_29 c44_29) ∧
            appendH h31 ty_S_int 1 [.slice none 0 0] a44_29 n44_29 c44_29 (some ⟨h30.size, 0, none⟩) 1 fun (a48_32 : Option Addr) (n48_32 c48_32 : Nat) (h32 : Heap) =>
            ∃ (e33 : TypeId) (c33 : List Value), Row h32 b5_15 e33 c33 ∧ o5_15 + 4 < c33.length ∧
            ∀ h34 : Heap, h34 = putRow h32 b5_15 e33 (c33.set (o5_15 + 4) (.slice a48_32 n48_32 c48_32)) →
            I16 [.int .i64 (IntKind.i64.wrap (x6_17 + 1))] h34 ∧ μ16 [.int .i64 (IntKind.i64.wrap (x6_17 + 1))] h34 < μ16 [.int .i64 x6_17] h16) ∧
          ((decide ((x6_17 : Int) < ((np0_1 : Nat) : Int))) = false →
            ∃ (a50_0_35 : Option Addr) (n50_0_35 c50_0_35 : Nat), cellAt h16 b5_15 o5_15 = some (.slice a50_0_35 n50_0_35 c50_0_35) ∧
            ∃ (a50_1_36 : Option Addr) (n50_1_36 c50_1_36 : Nat), cellAt h16 b5_15 (o5_15 + 1) = some (.slice a50_1_36 n50_1_36 c50_1_36) ∧
            ∃ (a50_2_37 : Option Addr) (n50_2_37 c50_2_37 : Nat), cellAt h16 b5_15 (o5_15 + 2) = some (.slice a50_2_37 n50_2_37 c50_2_37) ∧
            ∃ (a50_3_38 : Option Addr) (n50_3_38 c50_3_38 : Nat), cellAt h16 b5_15 (o5_15 + 3) = some (.slice a50_3_38 n50_3_38 c50_3_38) ∧
            ∃ (a50_4_39 : Option Addr) (n50_4_39 c50_4_39 : Nat), cellAt h16 b5_15 (o5_15 + 4) = some (.slice a50_4_39 n50_4_39 c50_4_39) ∧
            ∃ (e40 : TypeId) (c40 : List Value), Row h16 h.size e40 c40 ∧ 0 + 5 ≤ c40.length ∧
            ∀ h41 : Heap, h41 = putRow h16 h.size e40 (splice c40 0 [.slice a50_0_35 n50_0_35 c50_0_35, .slice a50_1_36 n50_1_36 c50_1_36, .slice a50_2_37 n50_2_37 c50_2_37, .slice a50_3_38 n50_3_38 c50_3_38, .slice a50_4_39 n50_4_39 c50_4_39]) →
            ∃ (ar0_0_42 : Option Addr) (nr0_0_42 cr0_0_42 : Nat), cellAt h41 h.size 0 = some (.slice ar0_0_42 nr0_0_42 cr0_0_42) ∧
            ∃ (ar0_1_43 : Option Addr) (nr0_1_43 cr0_1_43 : Nat), cellAt h41 h.size 1 = some (.slice ar0_1_43 nr0_1_43 cr0_1_43) ∧
            ∃ (ar0_2_44 : Option Addr) (nr0_2_44 cr0_2_44 : Nat), cellAt h41 h.size 2 = some (.slice ar0_2_44 nr0_2_44 cr0_2_44) ∧
            ∃ (ar0_3_45 : Option Addr) (nr0_3_45 cr0_3_45 : Nat), cellAt h41 h.size 3 = some (.slice ar0_3_45 nr0_3_45 cr0_3_45) ∧
            ∃ (ar0_4_46 : Option Addr) (nr0_4_46 cr0_4_46 : Nat), cellAt h41 h.size 4 = some (.slice ar0_4_46 nr0_4_46 cr0_4_46) ∧
            R (.tuple ⟨[.agg ⟨[.slice ar0_0_42 nr0_0_42 cr0_0_42, .slice ar0_1_43 nr0_1_43 cr0_1_43, .slice ar0_2_44 nr0_2_44 cr0_2_44, .slice ar0_3_45 nr0_3_45 cr0_3_45, .slice ar0_4_46 nr0_4_46 cr0_4_46]⟩, .bool true]⟩) h41))) → K14 [.pointer (some ⟨b5_15, o5_15, none⟩)] h14) →
      ((∀ h77 : Heap, h77 = newRowH h5 ty_int [] →
        ((appendH h77 ty_int 1 [.int .i64 0] (some ⟨h5.size, 0, none⟩) 0 0 ap0_1 np0_1 fun (a20_96 : Option Addr) (n20_96 c20_96 : Nat) (h96 : Heap) =>
          ((0 ≤ IntKind.i64.wrap (((np0_1 : Nat) : Int) * ((np0_1 : Nat) : Int)) ∧ IntKind.i64.wrap (((np0_1 : Nat) : Int) * ((np0_1 : Nat) : Int)) ≤ IntKind.i64.wrap (((np0_1 : Nat) : Int) * ((np0_1 : Nat) : Int)) ∧ IntKind.i64.wrap (((np0_1 : Nat) : Int) * ((np0_1 : Nat) : Int)) ≤ 1099511627776 ∧ ((24 : Nat) : Int) * (IntKind.i64.wrap (((np0_1 : Nat) : Int) * ((np0_1 : Nat) : Int))) ≤ 281474976710656 ∧
            ∀ h101 : Heap, h101 = newRowH h96 ty_S_int (repl [.slice none 0 0] (IntKind.i64.wrap (((np0_1 : Nat) : Int) * ((np0_1 : Nat) : Int))).toNat) →
            ∀ h102 : Heap, h102 = newRowH h101 ty_impl_Bank [.slice none 0 0, .slice none 0 0, .slice none 0 0, .slice none 0 0, .slice none 0 0] →
            ∃ (e103 : TypeId) (c103 : List Value), Row h102 h101.size e103 c103 ∧ 0 + 5 ≤ c103.length ∧
            ∀ h104 : Heap, h104 = putRow h102 h101.size e103 (splice c103 0 [.slice a20_96 n20_96 c20_96, .slice (some ⟨h96.size, 0, none⟩) ((IntKind.i64.wrap (((np0_1 : Nat) : Int) * ((np0_1 : Nat) : Int))).toNat) ((IntKind.i64.wrap (((np0_1 : Nat) : Int) * ((np0_1 : Nat) : Int))).toNat), .slice none 0 0, .slice none 0 0, .slice none 0 0]) →
            K14 [.pointer (some ⟨h101.size, 0, none⟩)] h104) ∧
          (∀ h97 : Heap, h97 = newRowH h96 ty_impl_Bank [.slice none 0 0, .slice none 0 0, .slice none 0 0, .slice none 0 0, .slice none 0 0] →
            0 ≤ IntKind.i64.wrap (((np0_1 : Nat) : Int) * ((np0_1 : Nat) : Int)) ∧ IntKind.i64.wrap (((np0_1 : Nat) : Int) * ((np0_1 : Nat) : Int)) ≤ IntKind.i64.wrap (((np0_1 : Nat) : Int) * ((np0_1 : Nat) : Int)) ∧ IntKind.i64.wrap (((np0_1 : Nat) : Int) * ((np0_1 : Nat) : Int)) ≤ 1099511627776 ∧ ((24 : Nat) : Int) * (IntKind.i64.wrap (((np0_1 : Nat) : Int) * ((np0_1 : Nat) : Int))) ≤ 281474976710656 ∧
            ∀ h98 : Heap, h98 = newRowH h97 ty_S_int (repl [.slice none 0 0] (IntKind.i64.wrap (((np0_1 : Nat) : Int) * ((np0_1 : Nat) : Int))).toNat) →
            ∃ (e99 : TypeId) (c99 : List Value), Row h98 h96.size e99 c99 ∧ 0 + 5 ≤ c99.length ∧
            ∀ h100 : Heap, h100 = putRow h98 h96.size e99 (splice c99 0 [.slice a20_96 n20_96 c20_96, .slice (some ⟨h97.size, 0, none⟩) ((IntKind.i64.wrap (((np0_1 : Nat) : Int) * ((np0_1 : Nat) : Int))).toNat) ((IntKind.i64.wrap (((np0_1 : Nat) : Int) * ((np0_1 : Nat) : Int))).toNat), .slice none 0 0, .slice none 0 0, .slice none 0 0]) →
            K14 [.pointer (some ⟨h96.size, 0, none⟩)] h100))) ∧
        ((0 ≤ IntKind.i64.wrap (((np0_1 : Nat) : Int) * ((np0_1 : Nat) : Int)) ∧ IntKind.i64.wrap (((np0_1 : Nat) : Int) * ((np0_1 : Nat) : Int)) ≤ IntKind.i64.wrap (((np0_1 : Nat) : Int) * ((np0_1 : Nat) : Int)) ∧ IntKind.i64.wrap (((np0_1 : Nat) : Int) * ((np0_1 : Nat) : Int)) ≤ 1099511627776 ∧ ((24 : Nat) : Int) * (IntKind.i64.wrap (((np0_1 : Nat) : Int) * ((np0_1 : Nat) : Int))) ≤ 281474976710656 ∧
          ∀ h87 : Heap, h87 = newRowH h77 ty_S_int (repl [.slice none 0 0] (IntKind.i64.wrap (((np0_1 : Nat) : Int) * ((np0_1 : Nat) : Int))).toNat) →
          ((appendH h87 ty_int 1 [.int .i64 0] (some ⟨h5.size, 0, none⟩) 0 0 ap0_1 np0_1 fun (a20_92 : Option Addr) (n20_92 c20_92 : Nat) (h92 : Heap) =>
            ∀ h93 : Heap, h93 = newRowH h92 ty_impl_Bank [.slice none 0 0, .slice none 0 0, .slice none 0 0, .slice none 0 0, .slice none 0 0] →
            ∃ (e94 : TypeId) (c94 : List Value), Row h93 h92.size e94 c94 ∧ 0 + 5 ≤ c94.length ∧
            ∀ h95 : Heap, h95 = putRow h93 h92.size e94 (splice c94 0 [.slice a20_92 n20_92 c20_92, .slice (some ⟨h77.size, 0, none⟩) ((IntKind.i64.wrap (((np0_1 : Nat) : Int) * ((np0_1 : Nat) : Int))).toNat) ((IntKind.i64.wrap (((np0_1 : Nat) : Int) * ((np0_1 : Nat) : Int))).toNat), .slice none 0 0, .slice none 0 0, .slice none 0 0]) →
            K14 [.pointer (some ⟨h92.size, 0, none⟩)] h95) ∧
          (∀ h88 : Heap, h88 = newRowH h87 ty_impl_Bank [.slice none 0 0, .slice none 0 0, .slice none 0 0, .slice none 0 0, .slice none 0 0] →
            appendH h88 ty_int 1 [.int .i64 0] (some ⟨h5.size, 0, none⟩) 0 0 ap0_1 np0_1 fun (a20_89 : Option Addr) (n20_89 c20_89 : Nat) (h89 : Heap) =>
            ∃ (e90 : TypeId) (c90 : List Value), Row h89 h87.size e90 c90 ∧ 0 + 5 ≤ c90.length ∧
            ∀ h91 : Heap, h91 = putRow h89 h87.size e90 (splice c90 0 [.slice a20_89 n20_89 c20_89, .slice (some ⟨h77.size, 0, none⟩) ((IntKind.i64.wrap (((np0_1 : Nat) : Int) * ((np0_1 : Nat) : Int))).toNat) ((IntKind.i64.wrap (((np0_1 : Nat) : Int) * ((np0_1 : Nat) : Int))).toNat), .slice none 0 0, .slice none 0 0, .slice none 0 0]) →
            K14 [.pointer (some ⟨h87.size, 0, none⟩)] h91))) ∧
        (∀ h78 : Heap, h78 = newRowH h77 ty_impl_Bank [.slice none 0 0, .slice none 0 0, .slice none 0 0, .slice none 0 0, .slice none 0 0] →
          ((appendH h78 ty_int 1 [.int .i64 0] (some ⟨h5.size, 0, none⟩) 0 0 ap0_1 np0_1 fun (a20_83 : Option Addr) (n20_83 c20_83 : Nat) (h83 : Heap) =>
            0 ≤ IntKind.i64.wrap (((np0_1 : Nat) : Int) * ((np0_1 : Nat) : Int)) ∧ IntKind.i64.wrap (((np0_1 : Nat) : Int) * ((np0_1 : Nat) : Int)) ≤ IntKind.i64.wrap (((np0_1 : Nat) : Int) * ((np0_1 : Nat) : Int)) ∧ IntKind.i64.wrap (((np0_1 : Nat) : Int) * ((np0_1 : Nat) : Int)) ≤ 1099511627776 ∧ ((24 : Nat) : Int) * (IntKind.i64.wrap (((np0_1 : Nat) : Int) * ((np0_1 : Nat) : Int))) ≤ 281474976710656 ∧
            ∀ h84 : Heap, h84 = newRowH h83 ty_S_int (repl [.slice none 0 0] (IntKind.i64.wrap (((np0_1 : Nat) : Int) * ((np0_1 : Nat) : Int))).toNat) →
            ∃ (e85 : TypeId) (c85 : List Value), Row h84 h77.size e85 c85 ∧ 0 + 5 ≤ c85.length ∧
            ∀ h86 : Heap, h86 = putRow h84 h77.size e85 (splice c85 0 [.slice a20_83 n20_83 c20_83, .slice (some ⟨h83.size, 0, none⟩) ((IntKind.i64.wrap (((np0_1 : Nat) : Int) * ((np0_1 : Nat) : Int))).toNat) ((IntKind.i64.wrap (((np0_1 : Nat) : Int) * ((np0_1 : Nat) : Int))).toNat), .slice none 0 0, .slice none 0 0, .slice none 0 0]) →
            K14 [.pointer (some ⟨h77.size, 0, none⟩)] h86) ∧
          (0 ≤ IntKind.i64.wrap (((np0_1 : Nat) : Int) * ((np0_1 : Nat) : Int)) ∧ IntKind.i64.wrap (((np0_1 : Nat) : Int) * ((np0_1 : Nat) : Int)) ≤ IntKind.i64.wrap (((np0_1 : Nat) : Int) * ((np0_1 : Nat) : Int)) ∧ IntKind.i64.wrap (((np0_1 : Nat) : Int) * ((np0_1 : Nat) : Int)) ≤ 1099511627776 ∧ ((24 : Nat) : Int) * (IntKind.i64.wrap (((np0_1 : Nat) : Int) * ((np0_1 : Nat) : Int))) ≤ 281474976710656 ∧
            ∀ h79 : Heap, h79 = newRowH h78 ty_S_int (repl [.slice none 0 0] (IntKind.i64.wrap (((np0_1 : Nat) : Int) * ((np0_1 : Nat) : Int))).toNat) →
            appendH h79 ty_int 1 [.int .i64 0] (some ⟨h5.size, 0, none⟩) 0 0 ap0_1 np0_1 fun (a20_80 : Option Addr) (n20_80 c20_80 : Nat) (h80 : Heap) =>
            ∃ (e81 : TypeId) (c81 : List Value), Row h80 h77.size e81 c81 ∧ 0 + 5 ≤ c81.length ∧
            ∀ h82 : Heap, h82 = putRow h80 h77.size e81 (splice c81 0 [.slice a20_80 n20_80 c20_80, .slice (some ⟨h78.size, 0, none⟩) ((IntKind.i64.wrap (((np0_1 : Nat) : Int) * ((np0_1 : Nat) : Int))).toNat) ((IntKind.i64.wrap (((np0_1 : Nat) : Int) * ((np0_1 : Nat) : Int))).toNat), .slice none 0 0, .slice none 0 0, .slice none 0 0]) →
            K14 [.pointer (some ⟨h77.size, 0, none⟩)] h82)))))) ∧
      ((0 ≤ IntKind.i64.wrap (((np0_1 : Nat) : Int) * ((np0_1 : Nat) : Int)) ∧ IntKind.i64.wrap (((np0_1 : Nat) : Int) * ((np0_1 : Nat) : Int)) ≤ IntKind.i64.wrap (((np0_1 : Nat) : Int) * ((np0_1 : Nat) : Int)) ∧ IntKind.i64.wrap (((np0_1 : Nat) : Int) * ((np0_1 : Nat) : Int)) ≤ 1099511627776 ∧ ((24 : Nat) : Int) * (IntKind.i64.wrap (((np0_1 : Nat) : Int) * ((np0_1 : Nat) : Int))) ≤ 281474976710656 ∧
        ∀ h62 : Heap, h62 = newRowH h5 ty_S_int (repl [.slice none 0 0] (IntKind.i64.wrap (((np0_1 : Nat) : Int) * ((np0_1 : Nat) : Int))).toNat) →
        ((∀ h68 : Heap, h68 = newRowH h62 ty_int [] →
          ((appendH h68 ty_int 1 [.int .i64 0] (some ⟨h62.size, 0, none⟩) 0 0 ap0_1 np0_1 fun (a20_73 : Option Addr) (n20_73 c20_73 : Nat) (h73 : Heap) =>
            ∀ h74 : Heap, h74 = newRowH h73 ty_impl_Bank [.slice none 0 0, .slice none 0 0, .slice none 0 0, .slice none 0 0, .slice none 0 0] →
            ∃ (e75 : TypeId) (c75 : List Value), Row h74 h73.size e75 c75 ∧ 0 + 5 ≤ c75.length ∧
            ∀ h76 : Heap, h76 = putRow h74 h73.size e75 (splice c75 0 [.slice a20_73 n20_73 c20_73, .slice (some ⟨h5.size, 0, none⟩) ((IntKind.i64.wrap (((np0_1 : Nat) : Int) * ((np0_1 : Nat) : Int))).toNat) ((IntKind.i64.wrap (((np0_1 : Nat) : Int) * ((np0_1 : Nat) : Int))).toNat), .slice none 0 0, .slice none 0 0, .slice none 0 0]) →
            K14 [.pointer (some ⟨h73.size, 0, none⟩)] h76) ∧
          (∀ h69 : Heap, h69 = newRowH h68 ty_impl_Bank [.slice none 0 0, .slice none 0 0, .slice none 0 0, .slice none 0 0, .slice none 0 0] →
            appendH h69 ty_int 1 [.int .i64 0] (some ⟨h62.size, 0, none⟩) 0 0 ap0_1 np0_1 fun (a20_70 : Option Addr) (n20_70 c20_70 : Nat) (h70 : Heap) =>
            ∃ (e71 : TypeId) (c71 : List Value), Row h70 h68.size e71 c71 ∧ 0 + 5 ≤ c71.length ∧
            ∀ h72 : Heap, h72 = putRow h70 h68.size e71 (splice c71 0 [.slice a20_70 n20_70 c20_70, .slice (some ⟨h5.size, 0, none⟩) ((IntKind.i64.wrap (((np0_1 : Nat) : Int) * ((np0_1 : Nat) : Int))).toNat) ((IntKind.i64.wrap (((np0_1 : Nat) : Int) * ((np0_1 : Nat) : Int))).toNat), .slice none 0 0, .slice none 0 0, .slice none 0 0]) →
            K14 [.pointer (some ⟨h68.size, 0, none⟩)] h72))) ∧
        (∀ h63 : Heap, h63 = newRowH h62 ty_impl_Bank [.slice none 0 0, .slice none 0 0, .slice none 0 0, .slice none 0 0, .slice none 0 0] →
          ∀ h64 : Heap, h64 = newRowH h63 ty_int [] →
          appendH h64 ty_int 1 [.int .i64 0] (some ⟨h63.size, 0, none⟩) 0 0 ap0_1 np0_1 fun (a20_65 : Option Addr) (n20_65 c20_65 : Nat) (h65 : Heap) =>
          ∃ (e66 : TypeId) (c66 : List Value), Row h65 h62.size e66 c66 ∧ 0 + 5 ≤ c66.length ∧
          ∀ h67 : Heap, h67 = putRow h65 h62.size e66 (splice c66 0 [.slice a20_65 n20_65 c20_65, .slice (some ⟨h5.size, 0, none⟩) ((IntKind.i64.wrap (((np0_1 : Nat) : Int) * ((np0_1 : Nat) : Int))).toNat) ((IntKind.i64.wrap (((np0_1 : Nat) : Int) * ((np0_1 : Nat) : Int))).toNat), .slice none 0 0, .slice none 0 0, .slice none 0 0]) →
          K14 [.pointer (some ⟨h62.size, 0, none⟩)] h67))) ∧
      (∀ h47 : Heap, h47 = newRowH h5 ty_impl_Bank [.slice none 0 0, .slice none 0 0, .slice none 0 0, .slice none 0 0, .slice none 0 0] →
        ((∀ h53 : Heap, h53 = newRowH h47 ty_int [] →
          ((appendH h53 ty_int 1 [.int .i64 0] (some ⟨h47.size, 0, none⟩) 0 0 ap0_1 np0_1 fun (a20_58 : Option Addr) (n20_58 c20_58 : Nat) (h58 : Heap) =>
            0 ≤ IntKind.i64.wrap (((np0_1 : Nat) : Int) * ((np0_1 : Nat) : Int)) ∧ IntKind.i64.wrap (((np0_1 : Nat) : Int) * ((np0_1 : Nat) : Int)) ≤ IntKind.i64.wrap (((np0_1 : Nat) : Int) * ((np0_1 : Nat) : Int)) ∧ IntKind.i64.wrap (((np0_1 : Nat) : Int) * ((np0_1 : Nat) : Int)) ≤ 1099511627776 ∧ ((24 : Nat) : Int) * (IntKind.i64.wrap (((np0_1 : Nat) : Int) * ((np0_1 : Nat) : Int))) ≤ 281474976710656 ∧
            ∀ h59 : Heap, h59 = newRowH h58 ty_S_int (repl [.slice none 0 0] (IntKind.i64.wrap (((np0_1 : Nat) : Int) * ((np0_1 : Nat) : Int))).toNat) →
            ∃ (e60 : TypeId) (c60 : List Value), Row h59 h5.size e60 c60 ∧ 0 + 5 ≤ c60.length ∧
            ∀ h61 : Heap, h61 = putRow h59 h5.size e60 (splice c60 0 [.slice a20_58 n20_58 c20_58, .slice (some ⟨h58.size, 0, none⟩) ((IntKind.i64.wrap (((np0_1 : Nat) : Int) * ((np0_1 : Nat) : Int))).toNat) ((IntKind.i64.wrap (((np0_1 : Nat) : Int) * ((np0_1 : Nat) : Int))).toNat), .slice none 0 0, .slice none 0 0, .slice none 0 0]) →
            K14 [.pointer (some ⟨h5.size, 0, none⟩)] h61) ∧
          (0 ≤ IntKind.i64.wrap (((np0_1 : Nat) : Int) * ((np0_1 : Nat) : Int)) ∧ IntKind.i64.wrap (((np0_1 : Nat) : Int) * ((np0_1 : Nat) : Int)) ≤ IntKind.i64.wrap (((np0_1 : Nat) : Int) * ((np0_1 : Nat) : Int)) ∧ IntKind.i64.wrap (((np0_1 : Nat) : Int) * ((np0_1 : Nat) : Int)) ≤ 1099511627776 ∧ ((24 : Nat) : Int) * (IntKind.i64.wrap (((np0_1 : Nat) : Int) * ((np0_1 : Nat) : Int))) ≤ 281474976710656 ∧
            ∀ h54 : Heap, h54 = newRowH h53 ty_S_int (repl [.slice none 0 0] (IntKind.i64.wrap (((np0_1 : Nat) : Int) * ((np0_1 : Nat) : Int))).toNat) →
            appendH h54 ty_int 1 [.int .i64 0] (some ⟨h47.size, 0, none⟩) 0 0 ap0_1 np0_1 fun (a20_55 : Option Addr) (n20_55 c20_55 : Nat) (h55 : Heap) =>
            ∃ (e56 : TypeId) (c56 : List Value), Row h55 h5.size e56 c56 ∧ 0 + 5 ≤ c56.length ∧
            ∀ h57 : Heap, h57 = putRow h55 h5.size e56 (splice c56 0 [.slice a20_55 n20_55 c20_55, .slice (some ⟨h53.size, 0, none⟩) ((IntKind.i64.wrap (((np0_1 : Nat) : Int) * ((np0_1 : Nat) : Int))).toNat) ((IntKind.i64.wrap (((np0_1 : Nat) : Int) * ((np0_1 : Nat) : Int))).toNat), .slice none 0 0, .slice none 0 0, .slice none 0 0]) →
            K14 [.pointer (some ⟨h5.size, 0, none⟩)] h57))) ∧
        (0 ≤ IntKind.i64.wrap (((np0_1 : Nat) : Int) * ((np0_1 : Nat) : Int)) ∧ IntKind.i64.wrap (((np0_1 : Nat) : Int) * ((np0_1 : Nat) : Int)) ≤ IntKind.i64.wrap (((np0_1 : Nat) : Int) * ((np0_1 : Nat) : Int)) ∧ IntKind.i64.wrap (((np0_1 : Nat) : Int) * ((np0_1 : Nat) : Int)) ≤ 1099511627776 ∧ ((24 : Nat) : Int) * (IntKind.i64.wrap (((np0_1 : Nat) : Int) * ((np0_1 : Nat) : Int))) ≤ 281474976710656 ∧
          ∀ h48 : Heap, h48 = newRowH h47 ty_S_int (repl [.slice none 0 0] (IntKind.i64.wrap (((np0_1 : Nat) : Int) * ((np0_1 : Nat) : Int))).toNat) →
          ∀ h49 : Heap, h49 = newRowH h48 ty_int [] →
          appendH h49 ty_int 1 [.int .i64 0] (some ⟨h48.size, 0, none⟩) 0 0 ap0_1 np0_1 fun (a20_50 : Option Addr) (n20_50 c20_50 : Nat) (h50 : Heap) =>
          ∃ (e51 : TypeId) (c51 : List Value), Row h50 h5.size e51 c51 ∧ 0 + 5 ≤ c51.length ∧
          ∀ h52 : Heap, h52 = putRow h50 h5.size e51 (splice c51 0 [.slice a20_50 n20_50 c20_50, .slice (some ⟨h47.size, 0, none⟩) ((IntKind.i64.wrap (((np0_1 : Nat) : Int) * ((np0_1 : Nat) : Int))).toNat) ((IntKind.i64.wrap (((np0_1 : Nat) : Int) * ((np0_1 : Nat) : Int))).toNat), .slice none 0 0, .slice none 0 0, .slice none 0 0]) →
          K14 [.pointer (some ⟨h5.size, 0, none⟩)] h52)))))))) ∧
  ((!t10_4) = true →
    ∃ (e105 : TypeId) (c105 : List Value), Row h3 h.size e105 c105 ∧ 0 + 5 ≤ c105.length ∧
    ∀ h106 : Heap, h106 = putRow h3 h.size e105 (splice c105 0 [.slice none 0 0, .slice none 0 0, .slice none 0 0, .slice none 0 0, .slice none 0 0]) →
    ∃ (ar0_0_107 : Option Addr) (nr0_0_107 cr0_0_107 : Nat), cellAt h106 h.size 0 = some (.slice ar0_0_107 nr0_0_107 cr0_0_107) ∧
    ∃ (ar0_1_108 : Option Addr) (nr0_1_108 cr0_1_108 : Nat), cellAt h106 h.size 1 = some (.slice ar0_1_108 nr0_1_108 cr0_1_108) ∧
    ∃ (ar0_2_109 : Option Addr) (nr0_2_109 cr0_2_109 : Nat), cellAt h106 h.size 2 = some (.slice ar0_2_109 nr0_2_109 cr0_2_109) ∧
    ∃ (ar0_3_110 : Option Addr) (nr0_3_110 cr0_3_110 : Nat), cellAt h106 h.size 3 = some (.slice ar0_3_110 nr0_3_110 cr0_3_110) ∧
    ∃ (ar0_4_111 : Option Addr) (nr0_4_111 cr0_4_111 : Nat), cellAt h106 h.size 4 = some (.slice ar0_4_111 nr0_4_111 cr0_4_111) ∧
    R (.tuple ⟨[.agg ⟨[.slice ar0_0_107 nr0_0_107 cr0_0_107, .slice ar0_1_108 nr0_1_108 cr0_1_108, .slice ar0_2_109 nr0_2_109 cr0_2_109, .slice ar0_3_110 nr0_3_110 cr0_3_110, .slice ar0_4_111 nr0_4_111 cr0_4_111]⟩, .bool false]⟩) h106))
def plan_spec_NewBank : Plan := .seq none (.leaf) (.seq none (.leaf) (.seq none (.seq none (.leaf) (.cond (.seq none (.leaf) (.leaf)) (.leaf))) (.seq (some [(5, .l (.ptrN))]) (.draw (.op 1 (.op 3 (.op 4 (.op 5 (.fork (.op 0 (.fork (.op 2 (.fork (.op 6 (.op 7 (.op 8 (.op 9 .done)))) (.op 8 (.op 6 (.op 7 (.op 9 .done)))))) (.fork (.op 6 (.fork (.op 2 (.op 7 (.op 8 (.op 9 .done)))) (.op 8 (.op 2 (.op 7 (.op 9 .done)))))) (.op 8 (.fork (.op 2 (.op 6 (.op 7 (.op 9 .done)))) (.op 6 (.op 2 (.op 7 (.op 9 .done))))))))) (.fork (.op 6 (.fork (.op 0 (.fork (.op 2 (.op 7 (.op 8 (.op 9 .done)))) (.op 8 (.op 2 (.op 7 (.op 9 .done)))))) (.op 8 (.op 0 (.op 2 (.op 7 (.op 9 .done))))))) (.op 8 (.fork (.op 0 (.fork (.op 2 (.op 6 (.op 7 (.op 9 .done)))) (.op 6 (.op 2 (.op 7 (.op 9 .done)))))) (.op 6 (.op 0 (.op 2 (.op 7 (.op 9 .done)))))))))))))) (.seq none (.seq none (.leaf) (.block (.loop [(6, .l (.int .i64))] (.seq none (.seq none (.leaf) (.cond (.leaf) (.leaf))) (.seq none (.block (.seq none (.leaf) (.seq none (.draw (.op 0 (.op 1 (.op 2 (.op 3 (.op 4 (.op 5 (.op 6 (.op 7 .done))))))))) (.draw (.op 0 (.op 1 (.op 2 (.op 3 (.op 4 (.op 5 (.op 6 (.op 7 .done)))))))))))) (.leaf)))))) (.seq none (.leaf) (.leaf))))))
theorem tie_spec_NewBank : (fun (ap0_1 : Option Addr) (np0_1 cp0_1 : Nat) (h : Heap) (R : Value → Heap → Prop) => denF X0 Try.f81 (bodyOf Try.f81) plan_spec_NewBank [.l (.sl ap0_1 np0_1 cp0_1)] h R) = M_spec_NewBank := by kernel_rfl
theorem calls_spec_NewBank (ap0_1 : Option Addr) (np0_1 cp0_1 : Nat) {h : Heap} {R : Value → Heap → Prop} (hm : M_spec_NewBank ap0_1 np0_1 cp0_1 h R) : CallsH PP fn_spec_NewBank [.slice ap0_1 np0_1 cp0_1] h R :=
  callsH_of X0ok Try.func81 (by kernel_rfl) plan_spec_NewBank [.l (.sl ap0_1 np0_1 cp0_1)] (Eq.mpr (congrFun (congrFun (congrFun (congrFun (congrFun tie_spec_NewBank ap0_1) np0_1) cp0_1) h) R) hm)
/- 82: spec.l12Step -/
def M_spec_l12Step (ap0_0_1 : Option Addr) (np0_0_1 cp0_0_1 : Nat) (ap0_1_2 : Option Addr) (np0_1_2 cp0_1_2 : Nat) (ap0_2_3 : Option Addr) (np0_2_3 cp0_2_3 : Nat) (ap0_3_4 : Option Addr) (np0_3_4 cp0_3_4 : Nat) (ap0_4_5 : Option Addr) (np0_4_5 cp0_4_5 : Nat) (xp1_0_6 : Int) (xp1_1_7 : Int) (xp1_2_8 : Int) (xp1_3_9 : Int) (h : Heap) (R : Value → Heap → Prop) : Prop :=
  ∀ h10 : Heap, h10 = newRowH h ty_impl_Bank [.slice ap0_0_1 np0_0_1 cp0_0_1, .slice ap0_1_2 np0_1_2 cp0_1_2, .slice ap0_2_3 np0_2_3 cp0_2_3, .slice ap0_3_4 np0_3_4 cp0_3_4, .slice ap0_4_5 np0_4_5 cp0_4_5] →
  ∀ h11 : Heap, h11 = newRowH h10 ty_impl_SnapStep [.int .i64 xp1_0_6, .int .i64 xp1_1_7, .int .i64 xp1_2_8, .int .i64 xp1_3_9] →
  ∀ h12 : Heap, h12 = newRowH h11 ty_impl_Bank [.slice none 0 0, .slice none 0 0, .slice none 0 0, .slice none 0 0, .slice none 0 0] →
  ∃ (a10_13 : Option Addr) (n10_13 c10_13 : Nat), cellAt h12 h.size 0 = some (.slice a10_13 n10_13 c10_13) ∧
  ∃ (x13_14 : Int), cellAt h12 h10.size 0 = some (.int .i64 x13_14) ∧
  ((((x13_14 : Int) == 3) = true →
    ∃ (x16_15 : Int), cellAt h12 h10.size 2 = some (.int .i64 x16_15) ∧
    ((((x16_15 : Int) != 0) = false →
      ∃ (x20_16 : Int), cellAt h12 h10.size 3 = some (.int .i64 x20_16) ∧
      ((((x20_16 : Int) != 0) = false →
        ∃ (x25_17 : Int), cellAt h12 h10.size 1 = some (.int .i64 x25_17) ∧
        CallsH PP fn_spec_l1In [.int .i64 x25_17, .int .i64 0, .int .i64 (IntKind.i64.wrap (((n10_13 : Nat) : Int) - 1))] h12 fun (v18 : Value) (h18 : Heap) =>
        ∃ (t28_19 : Bool), v18 = .bool t28_19 ∧
        (((!t28_19) = false →
          ∃ (a33_20 : Option Addr) (n33_20 c33_20 : Nat), cellAt h18 h.size 2 = some (.slice a33_20 n33_20 c33_20) ∧
          ∃ (x35_21 : Int), cellAt h18 h10.size 1 = some (.int .i64 x35_21) ∧
          ∃ (b36_22 o36_22 : Nat), a33_20 = some ⟨b36_22, o36_22, none⟩ ∧ (0 : Int) ≤ x35_21 ∧ (x35_21 : Int) < ((n33_20 : Nat) : Int) ∧
          ∃ (x37_23 : Int), cellAt h18 b36_22 (o36_22 + x35_21.toNat) = some (.int .i64 x37_23) ∧
          (((decide ((x37_23 : Int) ≥ 0)) = true →
            ∃ (a40_0_24 : Option Addr) (n40_0_24 c40_0_24 : Nat), cellAt h18 h.size 0 = some (.slice a40_0_24 n40_0_24 c40_0_24) ∧
            ∃ (a40_1_25 : Option Addr) (n40_1_25 c40_1_25 : Nat), cellAt h18 h.size 1 = some (.slice a40_1_25 n40_1_25 c40_1_25) ∧
            ∃ (a40_2_26 : Option Addr) (n40_2_26 c40_2_26 : Nat), cellAt h18 h.size 2 = some (.slice a40_2_26 n40_2_26 c40_2_26) ∧
            ∃ (a40_3_27 : Option Addr) (n40_3_27 c40_3_27 : Nat), cellAt h18 h.size 3 = some (.slice a40_3_27 n40_3_27 c40_3_27) ∧
            ∃ (a40_4_28 : Option Addr) (n40_4_28 c40_4_28 : Nat), cellAt h18 h.size 4 = some (.slice a40_4_28 n40_4_28 c40_4_28) ∧
            ∃ (e29 : TypeId) (c29 : List Value), Row h18 h11.size e29 c29 ∧ 0 + 5 ≤ c29.length ∧
            ∀ h30 : Heap, h30 = putRow h18 h11.size e29 (splice c29 0 [.slice a40_0_24 n40_0_24 c40_0_24, .slice a40_1_25 n40_1_25 c40_1_25, .slice a40_2_26 n40_2_26 c40_2_26, .slice a40_3_27 n40_3_27 c40_3_27, .slice a40_4_28 n40_4_28 c40_4_28]) →
            ∃ (ar0_0_31 : Option Addr) (nr0_0_31 cr0_0_31 : Nat), cellAt h30 h11.size 0 = some (.slice ar0_0_31 nr0_0_31 cr0_0_31) ∧
            ∃ (ar0_1_32 : Option Addr) (nr0_1_32 cr0_1_32 : Nat), cellAt h30 h11.size 1 = some (.slice ar0_1_32 nr0_1_32 cr0_1_32) ∧
            ∃ (ar0_2_33 : Option Addr) (nr0_2_33 cr0_2_33 : Nat), cellAt h30 h11.size 2 = some (.slice ar0_2_33 nr0_2_33 cr0_2_33) ∧
            ∃ (ar0_3_34 : Option Addr) (nr0_3_34 cr0_3_34 : Nat), cellAt h30 h11.size 3 = some (.slice ar0_3_34 nr0_3_34 cr0_3_34) ∧
            ∃ (ar0_4_35 : Option Addr) (nr0_4_35 cr0_4_35 : Nat), cellAt h30 h11.size 4 = some (.slice ar0_4_35 nr0_4_35 cr0_4_35) ∧
            R (.tuple ⟨[.agg ⟨[.slice ar0_0_31 nr0_0_31 cr0_0_31, .slice ar0_1_32 nr0_1_32 cr0_1_32, .slice ar0_2_33 nr0_2_33 cr0_2_33, .slice ar0_3_34 nr0_3_34 cr0_3_34, .slice ar0_4_35 nr0_4_35 cr0_4_35]⟩, .bool false]⟩) h30) ∧
          ((decide ((x37_23 : Int) ≥ 0)) = false →
            ∃ (a41_0_36 : Option Addr) (n41_0_36 c41_0_36 : Nat), cellAt h18 h.size 0 = some (.slice a41_0_36 n41_0_36 c41_0_36) ∧
            ∃ (a41_1_37 : Option Addr) (n41_1_37 c41_1_37 : Nat), cellAt h18 h.size 1 = some (.slice a41_1_37 n41_1_37 c41_1_37) ∧
            ∃ (a41_2_38 : Option Addr) (n41_2_38 c41_2_38 : Nat), cellAt h18 h.size 2 = some (.slice a41_2_38 n41_2_38 c41_2_38) ∧
            ∃ (a41_3_39 : Option Addr) (n41_3_39 c41_3_39 : Nat), cellAt h18 h.size 3 = some (.slice a41_3_39 n41_3_39 c41_3_39) ∧
            ∃ (a41_4_40 : Option Addr) (n41_4_40 c41_4_40 : Nat), cellAt h18 h.size 4 = some (.slice a41_4_40 n41_4_40 c41_4_40) ∧
            ∃ (x43_41 : Int), cellAt h18 h10.size 1 = some (.int .i64 x43_41) ∧
            CallsH PP fn_spec_l12Picture [.agg ⟨[.slice a41_0_36 n41_0_36 c41_0_36, .slice a41_1_37 n41_1_37 c41_1_37, .slice a41_2_38 n41_2_38 c41_2_38, .slice a41_3_39 n41_3_39 c41_3_39, .slice a41_4_40 n41_4_40 c41_4_40]⟩, .int .i64 x43_41] h18 fun (v42 : Value) (h42 : Heap) =>
            ∃ (a44_0_43 : Option Addr) (n44_0_43 c44_0_43 : Nat) (a44_1_44 : Option Addr) (n44_1_44 c44_1_44 : Nat) (a44_2_45 : Option Addr) (n44_2_45 c44_2_45 : Nat) (a44_3_46 : Option Addr) (n44_3_46 c44_3_46 : Nat) (a44_4_47 : Option Addr) (n44_4_47 c44_4_47 : Nat), v42 = .agg ⟨[.slice a44_0_43 n44_0_43 c44_0_43, .slice a44_1_44 n44_1_44 c44_1_44, .slice a44_2_45 n44_2_45 c44_2_45, .slice a44_3_46 n44_3_46 c44_3_46, .slice a44_4_47 n44_4_47 c44_4_47]⟩ ∧
            ∃ (e48 : TypeId) (c48 : List Value), Row h42 h11.size e48 c48 ∧ 0 + 5 ≤ c48.length ∧
            ∀ h49 : Heap, h49 = putRow h42 h11.size e48 (splice c48 0 [.slice a44_0_43 n44_0_43 c44_0_43, .slice a44_1_44 n44_1_44 c44_1_44, .slice a44_2_45 n44_2_45 c44_2_45, .slice a44_3_46 n44_3_46 c44_3_46, .slice a44_4_47 n44_4_47 c44_4_47]) →
            ∃ (ar0_0_50 : Option Addr) (nr0_0_50 cr0_0_50 : Nat), cellAt h49 h11.size 0 = some (.slice ar0_0_50 nr0_0_50 cr0_0_50) ∧
            ∃ (ar0_1_51 : Option Addr) (nr0_1_51 cr0_1_51 : Nat), cellAt h49 h11.size 1 = some (.slice ar0_1_51 nr0_1_51 cr0_1_51) ∧
            ∃ (ar0_2_52 : Option Addr) (nr0_2_52 cr0_2_52 : Nat), cellAt h49 h11.size 2 = some (.slice ar0_2_52 nr0_2_52 cr0_2_52) ∧
            ∃ (ar0_3_53 : Option Addr) (nr0_3_53 cr0_3_53 : Nat), cellAt h49 h11.size 3 = some (.slice ar0_3_53 nr0_3_53 cr0_3_53) ∧
            ∃ (ar0_4_54 : Option Addr) (nr0_4_54 cr0_4_54 : Nat), cellAt h49 h11.size 4 = some (.slice ar0_4_54 nr0_4_54 cr0_4_54) ∧
            R (.tuple ⟨[.agg ⟨[.slice ar0_0_50 nr0_0_50 cr0_0_50, .slice ar0_1_51 nr0_1_51 cr0_1_51, .slice ar0_2_52 nr0_2_52 cr0_2_52, .slice ar0_3_53 nr0_3_53 cr0_3_53, .slice ar0_4_54 nr0_4_54 cr0_4_54]⟩, .bool true]⟩) h49))) ∧
        ((!t28_19) = true →
          ∃ (a40_0_55 : Option Addr) (n40_0_55 c40_0_55 : Nat), cellAt h18 h.size 0 = some (.slice a40_0_55 n40_0_55 c40_0_55) ∧
          ∃ (a40_1_56 : Option Addr) (n40_1_56 c40_1_56 : Nat), cellAt h18 h.size 1 = some (.slice a40_1_56 n40_1_56 c40_1_56) ∧
          ∃ (a40_2_57 : Option Addr) (n40_2_57 c40_2_57 : Nat), cellAt h18 h.size 2 = some (.slice a40_2_57 n40_2_57 c40_2_57) ∧
          ∃ (a40_3_58 : Option Addr) (n40_3_58 c40_3_58 : Nat), cellAt h18 h.size 3 = some (.slice a40_3_58 n40_3_58 c40_3_58) ∧
          ∃ (a40_4_59 : Option Addr) (n40_4_59 c40_4_59 : Nat), cellAt h18 h.size 4 = some (.slice a40_4_59 n40_4_59 c40_4_59) ∧
          ∃ (e60 : TypeId) (c60 : List Value), Row h18 h11.size e60 c60 ∧ 0 + 5 ≤ c60.length ∧
          ∀ h61 : Heap, h61 = putRow h18 h11.size e60 (splice c60 0 [.slice a40_0_55 n40_0_55 c40_0_55, .slice a40_1_56 n40_1_56 c40_1_56, .slice a40_2_57 n40_2_57 c40_2_57, .slice a40_3_58 n40_3_58 c40_3_58, .slice a40_4_59 n40_4_59 c40_4_59]) →
          ∃ (ar0_0_62 : Option Addr) (nr0_0_62 cr0_0_62 : Nat), cellAt h61 h11.size 0 = some (.slice ar0_0_62 nr0_0_62 cr0_0_62) ∧
          ∃ (ar0_1_63 : Option Addr) (nr0_1_63 cr0_1_63 : Nat), cellAt h61 h11.size 1 = some (.slice ar0_1_63 nr0_1_63 cr0_1_63) ∧
          ∃ (ar0_2_64 : Option Addr) (nr0_2_64 cr0_2_64 : Nat), cellAt h61 h11.size 2 = some (.slice ar0_2_64 nr0_2_64 cr0_2_64) ∧
          ∃ (ar0_3_65 : Option Addr) (nr0_3_65 cr0_3_65 : Nat), cellAt h61 h11.size 3 = some (.slice ar0_3_65 nr0_3_65 cr0_3_65) ∧
          ∃ (ar0_4_66 : Option Addr) (nr0_4_66 cr0_4_66 : Nat), cellAt h61 h11.size 4 = some (.slice ar0_4_66 nr0_4_66 cr0_4_66) ∧
          R (.tuple ⟨[.agg ⟨[.slice ar0_0_62 nr0_0_62 cr0_0_62, .slice ar0_1_63 nr0_1_63 cr0_1_63, .slice ar0_2_64 nr0_2_64 cr0_2_64, .slice ar0_3_65 nr0_3_65 cr0_3_65, .slice ar0_4_66 nr0_4_66 cr0_4_66]⟩, .bool false]⟩) h61))) ∧
      (((x20_16 : Int) != 0) = true →
        ∃ (a40_0_67 : Option Addr) (n40_0_67 c40_0_67 : Nat), cellAt h12 h.size 0 = some (.slice a40_0_67 n40_0_67 c40_0_67) ∧
        ∃ (a40_1_68 : Option Addr) (n40_1_68 c40_1_68 : Nat), cellAt h12 h.size 1 = some (.slice a40_1_68 n40_1_68 c40_1_68) ∧
        ∃ (a40_2_69 : Option Addr) (n40_2_69 c40_2_69 : Nat), cellAt h12 h.size 2 = some (.slice a40_2_69 n40_2_69 c40_2_69) ∧
        ∃ (a40_3_70 : Option Addr) (n40_3_70 c40_3_70 : Nat), cellAt h12 h.size 3 = some (.slice a40_3_70 n40_3_70 c40_3_70) ∧
        ∃ (a40_4_71 : Option Addr) (n40_4_71 c40_4_71 : Nat), cellAt h12 h.size 4 = some (.slice a40_4_71 n40_4_71 c40_4_71) ∧
        ∃ (e72 : TypeId) (c72 : List Value), Row h12 h11.size e72 c72 ∧ 0 + 5 ≤ c72.length ∧
        ∀ h73 : Heap, h73 = putRow h12 h11.size e72 (splice c72 0 [.slice a40_0_67 n40_0_67 c40_0_67, .slice a40_1_68 n40_1_68 c40_1_68, .slice a40_2_69 n40_2_69 c40_2_69, .slice a40_3_70 n40_3_70 c40_3_70, .slice a40_4_71 n40_4_71 c40_4_71]) →
        ∃ (ar0_0_74 : Option Addr) (nr0_0_74 cr0_0_74 : Nat), cellAt h73 h11.size 0 = some (.slice ar0_0_74 nr0_0_74 cr0_0_74) ∧
        ∃ (ar0_1_75 : Option Addr) (nr0_1_75 cr0_1_75 : Nat), cellAt h73 h11.size 1 = some (.slice ar0_1_75 nr0_1_75 cr0_1_75) ∧
        ∃ (ar0_2_76 : Option Addr) (nr0_2_76 cr0_2_76 : Nat), cellAt h73 h11.size 2 = some (.slice ar0_2_76 nr0_2_76 cr0_2_76) ∧
        ∃ (ar0_3_77 : Option Addr) (nr0_3_77 cr0_3_77 : Nat), cellAt h73 h11.size 3 = some (.slice ar0_3_77 nr0_3_77 cr0_3_77) ∧
        ∃ (ar0_4_78 : Option Addr) (nr0_4_78 cr0_4_78 : Nat), cellAt h73 h11.size 4 = some (.slice ar0_4_78 nr0_4_78 cr0_4_78) ∧
        R (.tuple ⟨[.agg ⟨[.slice ar0_0_74 nr0_0_74 cr0_0_74, .slice ar0_1_75 nr0_1_75 cr0_1_75, .slice ar0_2_76 nr0_2_76 cr0_2_76, .slice ar0_3_77 nr0_3_77 cr0_3_77, .slice ar0_4_78 nr0_4_78 cr0_4_78]⟩, .bool false]⟩) h73))) ∧
    (((x16_15 : Int) != 0) = true →
      ∃ (a40_0_79 : Option Addr) (n40_0_79 c40_0_79 : Nat), cellAt h12 h.size 0 = some (.slice a40_0_79 n40_0_79 c40_0_79) ∧
      ∃ (a40_1_80 : Option Addr) (n40_1_80 c40_1_80 : Nat), cellAt h12 h.size 1 = some (.slice a40_1_80 n40_1_80 c40_1_80) ∧
      ∃ (a40_2_81 : Option Addr) (n40_2_81 c40_2_81 : Nat), cellAt h12 h.size 2 = some (.slice a40_2_81 n40_2_81 c40_2_81) ∧
      ∃ (a40_3_82 : Option Addr) (n40_3_82 c40_3_82 : Nat), cellAt h12 h.size 3 = some (.slice a40_3_82 n40_3_82 c40_3_82) ∧
      ∃ (a40_4_83 : Option Addr) (n40_4_83 c40_4_83 : Nat), cellAt h12 h.size 4 = some (.slice a40_4_83 n40_4_83 c40_4_83) ∧
      ∃ (e84 : TypeId) (c84 : List Value), Row h12 h11.size e84 c84 ∧ 0 + 5 ≤ c84.length ∧
      ∀ h85 : Heap, h85 = putRow h12 h11.size e84 (splice c84 0 [.slice a40_0_79 n40_0_79 c40_0_79, .slice a40_1_80 n40_1_80 c40_1_80, .slice a40_2_81 n40_2_81 c40_2_81, .slice a40_3_82 n40_3_82 c40_3_82, .slice a40_4_83 n40_4_83 c40_4_83]) →
      ∃ (ar0_0_86 : Option Addr) (nr0_0_86 cr0_0_86 : Nat), cellAt h85 h11.size 0 = some (.slice ar0_0_86 nr0_0_86 cr0_0_86) ∧
      ∃ (ar0_1_87 : Option Addr) (nr0_1_87 cr0_1_87 : Nat), cellAt h85 h11.size 1 = some (.slice ar0_1_87 nr0_1_87 cr0_1_87) ∧
      ∃ (ar0_2_88 : Option Addr) (nr0_2_88 cr0_2_88 : Nat), cellAt h85 h11.size 2 = some (.slice ar0_2_88 nr0_2_88 cr0_2_88) ∧
      ∃ (ar0_3_89 : Option Addr) (nr0_3_89 cr0_3_89 : Nat), cellAt h85 h11.size 3 = some (.slice ar0_3_89 nr0_3_89 cr0_3_89) ∧
      ∃ (ar0_4_90 : Option Addr) (nr0_4_90 cr0_4_90 : Nat), cellAt h85 h11.size 4 = some (.slice ar0_4_90 nr0_4_90 cr0_4_90) ∧
      R (.tuple ⟨[.agg ⟨[.slice ar0_0_86 nr0_0_86 cr0_0_86, .slice ar0_1_87 nr0_1_87 cr0_1_87, .slice ar0_2_88 nr0_2_88 cr0_2_88, .slice ar0_3_89 nr0_3_89 cr0_3_89, .slice ar0_4_90 nr0_4_90 cr0_4_90]⟩, .bool false]⟩) h85))) ∧
  (((x13_14 : Int) == 3) = false →
    ∃ (x48_91 : Int), cellAt h12 h10.size 1 = some (.int .i64 x48_91) ∧
    ∃ (x50_92 : Int), cellAt h12 h10.size 2 = some (.int .i64 x50_92) ∧
    CallsH PP fn_spec_WayAt [.int .i64 ((n10_13 : Nat) : Int), .int .i64 x48_91, .int .i64 x50_92] h12 fun (v93 : Value) (h93 : Heap) =>
    ∃ (x51_0_94 : Int), ∃ (t51_1_95 : Bool), v93 = .tuple ⟨[.int .i64 x51_0_94, .bool t51_1_95]⟩ ∧
    (((!t51_1_95) = true →
      ∃ (a57_0_96 : Option Addr) (n57_0_96 c57_0_96 : Nat), cellAt h93 h.size 0 = some (.slice a57_0_96 n57_0_96 c57_0_96) ∧
      ∃ (a57_1_97 : Option Addr) (n57_1_97 c57_1_97 : Nat), cellAt h93 h.size 1 = some (.slice a57_1_97 n57_1_97 c57_1_97) ∧
      ∃ (a57_2_98 : Option Addr) (n57_2_98 c57_2_98 : Nat), cellAt h93 h.size 2 = some (.slice a57_2_98 n57_2_98 c57_2_98) ∧
      ∃ (a57_3_99 : Option Addr) (n57_3_99 c57_3_99 : Nat), cellAt h93 h.size 3 = some (.slice a57_3_99 n57_3_99 c57_3_99) ∧
      ∃ (a57_4_100 : Option Addr) (n57_4_100 c57_4_100 : Nat), cellAt h93 h.size 4 = some (.slice a57_4_100 n57_4_100 c57_4_100) ∧
      ∃ (e101 : TypeId) (c101 : List Value), Row h93 h11.size e101 c101 ∧ 0 + 5 ≤ c101.length ∧
      ∀ h102 : Heap, h102 = putRow h93 h11.size e101 (splice c101 0 [.slice a57_0_96 n57_0_96 c57_0_96, .slice a57_1_97 n57_1_97 c57_1_97, .slice a57_2_98 n57_2_98 c57_2_98, .slice a57_3_99 n57_3_99 c57_3_99, .slice a57_4_100 n57_4_100 c57_4_100]) →
      ∃ (ar0_0_103 : Option Addr) (nr0_0_103 cr0_0_103 : Nat), cellAt h102 h11.size 0 = some (.slice ar0_0_103 nr0_0_103 cr0_0_103) ∧
      ∃ (ar0_1_104 : Option Addr) (nr0_1_104 cr0_1_104 : Nat), cellAt h102 h11.size 1 = some (.slice ar0_1_104 nr0_1_104 cr0_1_104) ∧
      ∃ (ar0_2_105 : Option Addr) (nr0_2_105 cr0_2_105 : Nat), cellAt h102 h11.size 2 = some (.slice ar0_2_105 nr0_2_105 cr0_2_105) ∧
      ∃ (ar0_3_106 : Option Addr) (nr0_3_106 cr0_3_106 : Nat), cellAt h102 h11.size 3 = some (.slice ar0_3_106 nr0_3_106 cr0_3_106) ∧
      ∃ (ar0_4_107 : Option Addr) (nr0_4_107 cr0_4_107 : Nat), cellAt h102 h11.size 4 = some (.slice ar0_4_107 nr0_4_107 cr0_4_107) ∧
      R (.tuple ⟨[.agg ⟨[.slice ar0_0_103 nr0_0_103 cr0_0_103, .slice ar0_1_104 nr0_1_104 cr0_1_104, .slice ar0_2_105 nr0_2_105 cr0_2_105, .slice ar0_3_106 nr0_3_106 cr0_3_106, .slice ar0_4_107 nr0_4_107 cr0_4_107]⟩, .bool false]⟩) h102) ∧
    ((!t51_1_95) = false →
      ∀ (K108 : List Value → Heap → Prop), (∀ h108 : Heap, ∀ (t58_109 : Bool), (
        ((t58_109 = true →
          ∃ (a88_110 : Option Addr) (n88_110 c88_110 : Nat), cellAt h108 h.size 0 = some (.slice a88_110 n88_110 c88_110) ∧
          ∃ (x90_111 : Int), cellAt h108 h10.size 1 = some (.int .i64 x90_111) ∧
          ∃ (b91_112 o91_112 : Nat), a88_110 = some ⟨b91_112, o91_112, none⟩ ∧ (0 : Int) ≤ x90_111 ∧ (x90_111 : Int) < ((n88_110 : Nat) : Int) ∧
          ∃ (x92_113 : Int), cellAt h108 b91_112 (o91_112 + x90_111.toNat) = some (.int .i64 x92_113) ∧
          ∃ (x94_114 : Int), cellAt h108 h10.size 3 = some (.int .i64 x94_114) ∧
          ∃ (b96_115 o96_115 : Nat), a88_110 = some ⟨b96_115, o96_115, none⟩ ∧ (0 : Int) ≤ x90_111 ∧ (x90_111 : Int) < ((n88_110 : Nat) : Int) ∧
          ∃ (e116 : TypeId) (c116 : List Value), Row h108 b96_115 e116 c116 ∧ o96_115 + x90_111.toNat < c116.length ∧
          ∀ h117 : Heap, h117 = putRow h108 b96_115 e116 (c116.set (o96_115 + x90_111.toNat) (.int .i64 (IntKind.i64.wrap (x92_113 - x94_114)))) →
          ∃ (a98_118 : Option Addr) (n98_118 c98_118 : Nat), cellAt h117 h.size 1 = some (.slice a98_118 n98_118 c98_118) ∧
          ∃ (a101_119 : Option Addr) (n101_119 c101_119 : Nat), cellAt h117 h.size 1 = some (.slice a101_119 n101_119 c101_119) ∧
          ∃ (b103_120 o103_120 : Nat), a101_119 = some ⟨b103_120, o103_120, none⟩ ∧ (0 : Int) ≤ x51_0_94 ∧ (x51_0_94 : Int) < ((n101_119 : Nat) : Int) ∧
          ∃ (a104_121 : Option Addr) (n104_121 c104_121 : Nat), cellAt h117 b103_120 (o103_120 + x51_0_94.toNat) = some (.slice a104_121 n104_121 c104_121) ∧
          ∃ (x106_122 : Int), cellAt h117 h10.size 3 = some (.int .i64 x106_122) ∧
          ∀ h123 : Heap, h123 = newRowH h117 ty_int [.int .i64 x106_122] →
          cellAt h123 b103_120 (o103_120 + x51_0_94.toNat) = some (.slice a104_121 n104_121 c104_121) ∧
          cellAt h123 h.size 1 = some (.slice a101_119 n101_119 c101_119) ∧
          cellAt h123 h.size 1 = some (.slice a98_118 n98_118 c98_118) ∧
          appendH h123 ty_int 1 [.int .i64 0] a104_121 n104_121 c104_121 (some ⟨h117.size, 0, none⟩) 1 fun (a108_124 : Option Addr) (n108_124 c108_124 : Nat) (h124 : Heap) =>
          cellAt h124 h.size 1 = some (.slice a98_118 n98_118 c98_118) ∧
          ∃ (b109_125 o109_125 : Nat), a98_118 = some ⟨b109_125, o109_125, none⟩ ∧ (0 : Int) ≤ x51_0_94 ∧ (x51_0_94 : Int) < ((n98_118 : Nat) : Int) ∧
          ∃ (e126 : TypeId) (c126 : List Value), Row h124 b109_125 e126 c126 ∧ o109_125 + x51_0_94.toNat < c126.length ∧
          ∀ h127 : Heap, h127 = putRow h124 b109_125 e126 (c126.set (o109_125 + x51_0_94.toNat) (.slice a108_124 n108_124 c108_124)) →
          ∃ (a110_0_128 : Option Addr) (n110_0_128 c110_0_128 : Nat), cellAt h127 h.size 0 = some (.slice a110_0_128 n110_0_128 c110_0_128) ∧
          ∃ (a110_1_129 : Option Addr) (n110_1_129 c110_1_129 : Nat), cellAt h127 h.size 1 = some (.slice a110_1_129 n110_1_129 c110_1_129) ∧
          ∃ (a110_2_130 : Option Addr) (n110_2_130 c110_2_130 : Nat), cellAt h127 h.size 2 = some (.slice a110_2_130 n110_2_130 c110_2_130) ∧
          ∃ (a110_3_131 : Option Addr) (n110_3_131 c110_3_131 : Nat), cellAt h127 h.size 3 = some (.slice a110_3_131 n110_3_131 c110_3_131) ∧
          ∃ (a110_4_132 : Option Addr) (n110_4_132 c110_4_132 : Nat), cellAt h127 h.size 4 = some (.slice a110_4_132 n110_4_132 c110_4_132) ∧
          ∃ (e133 : TypeId) (c133 : List Value), Row h127 h11.size e133 c133 ∧ 0 + 5 ≤ c133.length ∧
          ∀ h134 : Heap, h134 = putRow h127 h11.size e133 (splice c133 0 [.slice a110_0_128 n110_0_128 c110_0_128, .slice a110_1_129 n110_1_129 c110_1_129, .slice a110_2_130 n110_2_130 c110_2_130, .slice a110_3_131 n110_3_131 c110_3_131, .slice a110_4_132 n110_4_132 c110_4_132]) →
          ∃ (ar0_0_135 : Option Addr) (nr0_0_135 cr0_0_135 : Nat), cellAt h134 h11.size 0 = some (.slice ar0_0_135 nr0_0_135 cr0_0_135) ∧
          ∃ (ar0_1_136 : Option Addr) (nr0_1_136 cr0_1_136 : Nat), cellAt h134 h11.size 1 = some (.slice ar0_1_136 nr0_1_136 cr0_1_136) ∧
          ∃ (ar0_2_137 : Option Addr) (nr0_2_137 cr0_2_137 : Nat), cellAt h134 h11.size 2 = some (.slice ar0_2_137 nr0_2_137 cr0_2_137) ∧
          ∃ (ar0_3_138 : Option Addr) (nr0_3_138 cr0_3_138 : Nat), cellAt h134 h11.size 3 = some (.slice ar0_3_138 nr0_3_138 cr0_3_138) ∧
          ∃ (ar0_4_139 : Option Addr) (nr0_4_139 cr0_4_139 : Nat), cellAt h134 h11.size 4 = some (.slice ar0_4_139 nr0_4_139 cr0_4_139) ∧
          R (.tuple ⟨[.agg ⟨[.slice ar0_0_135 nr0_0_135 cr0_0_135, .slice ar0_1_136 nr0_1_136 cr0_1_136, .slice ar0_2_137 nr0_2_137 cr0_2_137, .slice ar0_3_138 nr0_3_138 cr0_3_138, .slice ar0_4_139 nr0_4_139 cr0_4_139]⟩, .bool true]⟩) h134) ∧
        (t58_109 = false →
          ∀ (K140 : List Value → Heap → Prop), (∀ h140 : Heap, ∀ (t111_141 : Bool), (
            ((t111_141 = true →
              ∃ (a129_0_142 : Option Addr) (n129_0_142 c129_0_142 : Nat), cellAt h140 h.size 0 = some (.slice a129_0_142 n129_0_142 c129_0_142) ∧
              ∃ (a129_1_143 : Option Addr) (n129_1_143 c129_1_143 : Nat), cellAt h140 h.size 1 = some (.slice a129_1_143 n129_1_143 c129_1_143) ∧
              ∃ (a129_2_144 : Option Addr) (n129_2_144 c129_2_144 : Nat), cellAt h140 h.size 2 = some (.slice a129_2_144 n129_2_144 c129_2_144) ∧
              ∃ (a129_3_145 : Option Addr) (n129_3_145 c129_3_145 : Nat), cellAt h140 h.size 3 = some (.slice a129_3_145 n129_3_145 c129_3_145) ∧
              ∃ (a129_4_146 : Option Addr) (n129_4_146 c129_4_146 : Nat), cellAt h140 h.size 4 = some (.slice a129_4_146 n129_4_146 c129_4_146) ∧
              ∃ (x131_147 : Int), cellAt h140 h10.size 1 = some (.int .i64 x131_147) ∧
              ∃ (x133_148 : Int), cellAt h140 h10.size 2 = some (.int .i64 x133_148) ∧
              CallsH PP fn_spec_l12Take [.agg ⟨[.slice a129_0_142 n129_0_142 c129_0_142, .slice a129_1_143 n129_1_143 c129_1_143, .slice a129_2_144 n129_2_144 c129_2_144, .slice a129_3_145 n129_3_145 c129_3_145, .slice a129_4_146 n129_4_146 c129_4_146]⟩, .int .i64 x131_147, .int .i64 x133_148] h140 fun (v149 : Value) (h149 : Heap) =>
              ∃ (a134_0_150 : Option Addr) (n134_0_150 c134_0_150 : Nat) (a134_1_151 : Option Addr) (n134_1_151 c134_1_151 : Nat) (a134_2_152 : Option Addr) (n134_2_152 c134_2_152 : Nat) (a134_3_153 : Option Addr) (n134_3_153 c134_3_153 : Nat) (a134_4_154 : Option Addr) (n134_4_154 c134_4_154 : Nat), v149 = .agg ⟨[.slice a134_0_150 n134_0_150 c134_0_150, .slice a134_1_151 n134_1_151 c134_1_151, .slice a134_2_152 n134_2_152 c134_2_152, .slice a134_3_153 n134_3_153 c134_3_153, .slice a134_4_154 n134_4_154 c134_4_154]⟩ ∧
              ∃ (e155 : TypeId) (c155 : List Value), Row h149 h11.size e155 c155 ∧ 0 + 5 ≤ c155.length ∧
              ∀ h156 : Heap, h156 = putRow h149 h11.size e155 (splice c155 0 [.slice a134_0_150 n134_0_150 c134_0_150, .slice a134_1_151 n134_1_151 c134_1_151, .slice a134_2_152 n134_2_152 c134_2_152, .slice a134_3_153 n134_3_153 c134_3_153, .slice a134_4_154 n134_4_154 c134_4_154]) →
              ∃ (ar0_0_157 : Option Addr) (nr0_0_157 cr0_0_157 : Nat), cellAt h156 h11.size 0 = some (.slice ar0_0_157 nr0_0_157 cr0_0_157) ∧
              ∃ (ar0_1_158 : Option Addr) (nr0_1_158 cr0_1_158 : Nat), cellAt h156 h11.size 1 = some (.slice ar0_1_158 nr0_1_158 cr0_1_158) ∧
              ∃ (ar0_2_159 : Option Addr) (nr0_2_159 cr0_2_159 : Nat), cellAt h156 h11.size 2 = some (.slice ar0_2_159 nr0_2_159 cr0_2_159) ∧
              ∃ (ar0_3_160 : Option Addr) (nr0_3_160 cr0_3_160 : Nat), cellAt h156 h11.size 3 = some (.slice ar0_3_160 nr0_3_160 cr0_3_160) ∧
              ∃ (ar0_4_161 : Option Addr) (nr0_4_161 cr0_4_161 : Nat), cellAt h156 h11.size 4 = some (.slice ar0_4_161 nr0_4_161 cr0_4_161) ∧
              R (.tuple ⟨[.agg ⟨[.slice ar0_0_157 nr0_0_157 cr0_0_157, .slice ar0_1_158 nr0_1_158 cr0_1_158, .slice ar0_2_159 nr0_2_159 cr0_2_159, .slice ar0_3_160 nr0_3_160 cr0_3_160, .slice ar0_4_161 nr0_4_161 cr0_4_161]⟩, .bool true]⟩) h156) ∧
            (t111_141 = false →
              ∃ (a135_0_162 : Option Addr) (n135_0_162 c135_0_162 : Nat), cellAt h140 h.size 0 = some (.slice a135_0_162 n135_0_162 c135_0_162) ∧
              ∃ (a135_1_163 : Option Addr) (n135_1_163 c135_1_163 : Nat), cellAt h140 h.size 1 = some (.slice a135_1_163 n135_1_163 c135_1_163) ∧
              ∃ (a135_2_164 : Option Addr) (n135_2_164 c135_2_164 : Nat), cellAt h140 h.size 2 = some (.slice a135_2_164 n135_2_164 c135_2_164) ∧
              ∃ (a135_3_165 : Option Addr) (n135_3_165 c135_3_165 : Nat), cellAt h140 h.size 3 = some (.slice a135_3_165 n135_3_165 c135_3_165) ∧
              ∃ (a135_4_166 : Option Addr) (n135_4_166 c135_4_166 : Nat), cellAt h140 h.size 4 = some (.slice a135_4_166 n135_4_166 c135_4_166) ∧
              ∃ (e167 : TypeId) (c167 : List Value), Row h140 h11.size e167 c167 ∧ 0 + 5 ≤ c167.length ∧
              ∀ h168 : Heap, h168 = putRow h140 h11.size e167 (splice c167 0 [.slice a135_0_162 n135_0_162 c135_0_162, .slice a135_1_163 n135_1_163 c135_1_163, .slice a135_2_164 n135_2_164 c135_2_164, .slice a135_3_165 n135_3_165 c135_3_165, .slice a135_4_166 n135_4_166 c135_4_166]) →
              ∃ (ar0_0_169 : Option Addr) (nr0_0_169 cr0_0_169 : Nat), cellAt h168 h11.size 0 = some (.slice ar0_0_169 nr0_0_169 cr0_0_169) ∧
              ∃ (ar0_1_170 : Option Addr) (nr0_1_170 cr0_1_170 : Nat), cellAt h168 h11.size 1 = some (.slice ar0_1_170 nr0_1_170 cr0_1_170) ∧
              ∃ (ar0_2_171 : Option Addr) (nr0_2_171 cr0_2_171 : Nat), cellAt h168 h11.size 2 = some (.slice ar0_2_171 nr0_2_171 cr0_2_171) ∧
              ∃ (ar0_3_172 : Option Addr) (nr0_3_172 cr0_3_172 : Nat), cellAt h168 h11.size 3 = some (.slice ar0_3_172 nr0_3_172 cr0_3_172) ∧
              ∃ (ar0_4_173 : Option Addr) (nr0_4_173 cr0_4_173 : Nat), cellAt h168 h11.size 4 = some (.slice ar0_4_173 nr0_4_173 cr0_4_173) ∧
              R (.tuple ⟨[.agg ⟨[.slice ar0_0_169 nr0_0_169 cr0_0_169, .slice ar0_1_170 nr0_1_170 cr0_1_170, .slice ar0_2_171 nr0_2_171 cr0_2_171, .slice ar0_3_172 nr0_3_172 cr0_3_172, .slice ar0_4_173 nr0_4_173 cr0_4_173]⟩, .bool false]⟩) h168))) → K140 [.bool t111_141] h140) →
          ∃ (x113_174 : Int), cellAt h108 h10.size 0 = some (.int .i64 x113_174) ∧
          ((((x113_174 : Int) == 2) = true →
            ∃ (x117_175 : Int), cellAt h108 h10.size 3 = some (.int .i64 x117_175) ∧
            ((((x117_175 : Int) == 0) = true →
              ∃ (a122_176 : Option Addr) (n122_176 c122_176 : Nat), cellAt h108 h.size 1 = some (.slice a122_176 n122_176 c122_176) ∧
              ∃ (b124_177 o124_177 : Nat), a122_176 = some ⟨b124_177, o124_177, none⟩ ∧ (0 : Int) ≤ x51_0_94 ∧ (x51_0_94 : Int) < ((n122_176 : Nat) : Int) ∧
              ∃ (a125_178 : Option Addr) (n125_178 c125_178 : Nat), cellAt h108 b124_177 (o124_177 + x51_0_94.toNat) = some (.slice a125_178 n125_178 c125_178) ∧
              K140 [.bool (decide ((((n125_178 : Nat) : Int) : Int) > 0))] h108) ∧
            (((x117_175 : Int) == 0) = false →
              K140 [.bool false] h108))) ∧
          (((x113_174 : Int) == 2) = false →
            K140 [.bool false] h108))))) → K108 [.bool t58_109] h108) →
      ∃ (x60_179 : Int), cellAt h93 h10.size 0 = some (.int .i64 x60_179) ∧
      ((((x60_179 : Int) == 1) = true →
        ∃ (x64_180 : Int), cellAt h93 h10.size 3 = some (.int .i64 x64_180) ∧
        CallsH PP fn_spec_l1In [.int .i64 x64_180, .int .i64 1, .int .i64 50] h93 fun (v181 : Value) (h181 : Heap) =>
        ∃ (t65_182 : Bool), v181 = .bool t65_182 ∧
        cellAt h181 h10.size 0 = some (.int .i64 x60_179) ∧
        ((t65_182 = true →
          ∃ (x69_183 : Int), cellAt h181 h10.size 3 = some (.int .i64 x69_183) ∧
          ∃ (a71_184 : Option Addr) (n71_184 c71_184 : Nat), cellAt h181 h.size 0 = some (.slice a71_184 n71_184 c71_184) ∧
          ∃ (x73_185 : Int), cellAt h181 h10.size 1 = some (.int .i64 x73_185) ∧
          ∃ (b74_186 o74_186 : Nat), a71_184 = some ⟨b74_186, o74_186, none⟩ ∧ (0 : Int) ≤ x73_185 ∧ (x73_185 : Int) < ((n71_184 : Nat) : Int) ∧
          ∃ (x75_187 : Int), cellAt h181 b74_186 (o74_186 + x73_185.toNat) = some (.int .i64 x75_187) ∧
          (((decide ((x69_183 : Int) ≤ x75_187)) = true →
            ∃ (a80_188 : Option Addr) (n80_188 c80_188 : Nat), cellAt h181 h.size 1 = some (.slice a80_188 n80_188 c80_188) ∧
            ∃ (b82_189 o82_189 : Nat), a80_188 = some ⟨b82_189, o82_189, none⟩ ∧ (0 : Int) ≤ x51_0_94 ∧ (x51_0_94 : Int) < ((n80_188 : Nat) : Int) ∧
            ∃ (a83_190 : Option Addr) (n83_190 c83_190 : Nat), cellAt h181 b82_189 (o82_189 + x51_0_94.toNat) = some (.slice a83_190 n83_190 c83_190) ∧
            K108 [.bool (decide ((((n83_190 : Nat) : Int) : Int) < 39))] h181) ∧
          ((decide ((x69_183 : Int) ≤ x75_187)) = false →
            K108 [.bool false] h181))) ∧
        (t65_182 = false →
          K108 [.bool false] h181))) ∧
      (((x60_179 : Int) == 1) = false →
        K108 [.bool false] h93))))))
def plan_spec_l12Step : Plan := .seq none (.leaf) (.seq none (.leaf) (.seq none (.seq none (.leaf) (.cond (.seq none (.seq none (.leaf) (.cond (.seq none (.leaf) (.leaf)) (.leaf))) (.seq none (.leaf) (.leaf))) (.leaf))) (.seq none (.leaf) (.seq none (.block (.seq none (.leaf) (.cond (.seq none (.leaf) (.leaf)) (.seq (some [(58, .l (.bool))]) (.draw (.op 0 (.op 1 (.op 2 (.op 3 (.op 4 (.op 5 (.op 6 (.op 7 (.op 8 (.op 9 (.op 10 (.op 11 (.op 12 (.op 13 (.op 14 (.op 15 (.op 16 (.op 17 (.op 18 (.op 19 (.op 20 (.op 21 (.op 22 (.op 23 (.op 24 (.op 25 (.op 26 (.op 27 (.op 28 .done)))))))))))))))))))))))))))))) (.cond (.seq none (.draw (.op 0 (.op 1 (.op 2 (.op 3 (.op 4 (.op 5 (.op 6 (.op 7 (.op 8 (.op 9 (.op 10 .done)))))))))))) (.seq none (.draw (.op 0 (.op 1 (.op 2 (.op 3 (.op 4 (.op 5 (.op 6 (.op 7 (.op 8 (.op 9 (.op 10 (.op 11 (.op 12 (.op 13 .done))))))))))))))) (.seq none (.leaf) (.leaf)))) (.seq (some [(111, .l (.bool))]) (.leaf) (.cond (.seq none (.leaf) (.leaf)) (.leaf)))))))) (.seq none (.leaf) (.leaf))))))
theorem tie_spec_l12Step : (fun (ap0_0_1 : Option Addr) (np0_0_1 cp0_0_1 : Nat) (ap0_1_2 : Option Addr) (np0_1_2 cp0_1_2 : Nat) (ap0_2_3 : Option Addr) (np0_2_3 cp0_2_3 : Nat) (ap0_3_4 : Option Addr) (np0_3_4 cp0_3_4 : Nat) (ap0_4_5 : Option Addr) (np0_4_5 cp0_4_5 : Nat) (xp1_0_6 : Int) (xp1_1_7 : Int) (xp1_2_8 : Int) (xp1_3_9 : Int) (h : Heap) (R : Value → Heap → Prop) => denF X0 Try.f82 (bodyOf Try.f82) plan_spec_l12Step [.agg [.sl ap0_0_1 np0_0_1 cp0_0_1, .sl ap0_1_2 np0_1_2 cp0_1_2, .sl ap0_2_3 np0_2_3 cp0_2_3, .sl ap0_3_4 np0_3_4 cp0_3_4, .sl ap0_4_5 np0_4_5 cp0_4_5], .agg [.int .i64 xp1_0_6, .int .i64 xp1_1_7, .int .i64 xp1_2_8, .int .i64 xp1_3_9]] h R) = M_spec_l12Step := by kernel_rfl
theorem calls_spec_l12Step (ap0_0_1 : Option Addr) (np0_0_1 cp0_0_1 : Nat) (ap0_1_2 : Option Addr) (np0_1_2 cp0_1_2 : Nat) (ap0_2_3 : Option Addr) (np0_2_3 cp0_2_3 : Nat) (ap0_3_4 : Option Addr) (np0_3_4 cp0_3_4 : Nat) (ap0_4_5 : Option Addr) (np0_4_5 cp0_4_5 : Nat) (xp1_0_6 : Int) (xp1_1_7 : Int) (xp1_2_8 : Int) (xp1_3_9 : Int) {h : Heap} {R : Value → Heap → Prop} (hm : M_spec_l12Step ap0_0_1 np0_0_1 cp0_0_1 ap0_1_2 np0_1_2 cp0_1_2 ap0_2_3 np0_2_3 cp0_2_3 ap0_3_4 np0_3_4 cp0_3_4 ap0_4_5 np0_4_5 cp0_4_5 xp1_0_6 xp1_1_7 xp1_2_8 xp1_3_9 h R) : CallsH PP fn_spec_l12Step [.agg ⟨[.slice ap0_0_1 np0_0_1 cp0_0_1, .slice ap0_1_2 np0_1_2 cp0_1_2, .slice ap0_2_3 np0_2_3 cp0_2_3, .slice ap0_3_4 np0_3_4 cp0_3_4, .slice ap0_4_5 np0_4_5 cp0_4_5]⟩, .agg ⟨[.int .i64 xp1_0_6, .int .i64 xp1_1_7, .int .i64 xp1_2_8, .int .i64 xp1_3_9]⟩] h R :=
  callsH_of X0ok Try.func82 (by kernel_rfl) plan_spec_l12Step [.agg [.sl ap0_0_1 np0_0_1 cp0_0_1, .sl ap0_1_2 np0_1_2 cp0_1_2, .sl ap0_2_3 np0_2_3 cp0_2_3, .sl ap0_3_4 np0_3_4 cp0_3_4, .sl ap0_4_5 np0_4_5 cp0_4_5], .agg [.int .i64 xp1_0_6, .int .i64 xp1_1_7, .int .i64 xp1_2_8, .int .i64 xp1_3_9]] (Eq.mpr (congrFun (congrFun (congrFun (congrFun (congrFun (congrFun (congrFun (congrFun (congrFun (congrFun (congrFun (congrFun (congrFun (congrFun (congrFun (congrFun (congrFun (congrFun (congrFun (congrFun (congrFun tie_spec_l12Step ap0_0_1) np0_0_1) cp0_0_1) ap0_1_2) np0_1_2) cp0_1_2) ap0_2_3) np0_2_3) cp0_2_3) ap0_3_4) np0_3_4) cp0_3_4) ap0_4_5) np0_4_5) cp0_4_5) xp1_0_6) xp1_1_7) xp1_2_8) xp1_3_9) h) R) hm)
/- 83: spec.l12Own -/
def M_spec_l12Own (ap0_0_1 : Option Addr) (np0_0_1 cp0_0_1 : Nat) (ap0_1_2 : Option Addr) (np0_1_2 cp0_1_2 : Nat) (ap0_2_3 : Option Addr) (np0_2_3 cp0_2_3 : Nat) (ap0_3_4 : Option Addr) (np0_3_4 cp0_3_4 : Nat) (ap0_4_5 : Option Addr) (np0_4_5 cp0_4_5 : Nat) (h : Heap) (R : Value → Heap → Prop) : Prop :=
  ∀ h6 : Heap, h6 = newRowH h ty_impl_Bank [.slice ap0_0_1 np0_0_1 cp0_0_1, .slice ap0_1_2 np0_1_2 cp0_1_2, .slice ap0_2_3 np0_2_3 cp0_2_3, .slice ap0_3_4 np0_3_4 cp0_3_4, .slice ap0_4_5 np0_4_5 cp0_4_5] →
  ∀ h7 : Heap, h7 = newRowH h6 ty_impl_Bank [.slice none 0 0, .slice none 0 0, .slice none 0 0, .slice none 0 0, .slice none 0 0] →
  ∀ (K8 : List Value → Heap → Prop), (∀ h8 : Heap, ∀ (b3_9 o3_9 : Nat), (
    ∃ (a17_10 : Option Addr) (n17_10 c17_10 : Nat), cellAt h8 h.size 1 = some (.slice a17_10 n17_10 c17_10) ∧
    ∃ (I11 : List Value → Heap → Prop) (μ11 : List Value → Heap → Nat), I11 [.int .i64 0] h8 ∧
    ∀ h11 : Heap, ∀ (x19_12 : Int), I11 [.int .i64 x19_12] h11 →
      (((decide ((x19_12 : Int) < ((n17_10 : Nat) : Int))) = true →
        ∃ (b21_13 o21_13 : Nat), a17_10 = some ⟨b21_13, o21_13, none⟩ ∧ (0 : Int) ≤ x19_12 ∧ (x19_12 : Int) < ((n17_10 : Nat) : Int) ∧
        ∃ (a22_14 : Option Addr) (n22_14 c22_14 : Nat), cellAt h11 b21_13 (o21_13 + x19_12.toNat) = some (.slice a22_14 n22_14 c22_14) ∧
        ∃ (a24_15 : Option Addr) (n24_15 c24_15 : Nat), cellAt h11 b3_9 (o3_9 + 1) = some (.slice a24_15 n24_15 c24_15) ∧
        ∀ h16 : Heap, h16 = newRowH h11 ty_int [] →
        cellAt h16 b3_9 (o3_9 + 1) = some (.slice a24_15 n24_15 c24_15) ∧
        appendH h16 ty_int 1 [.int .i64 0] (some ⟨h11.size, 0, none⟩) 0 0 a22_14 n22_14 fun (a27_17 : Option Addr) (n27_17 c27_17 : Nat) (h17 : Heap) =>
        cellAt h17 b3_9 (o3_9 + 1) = some (.slice a24_15 n24_15 c24_15) ∧
        ∀ h18 : Heap, h18 = newRowH h17 ty_S_int [.slice a27_17 n27_17 c27_17] →
        cellAt h18 b3_9 (o3_9 + 1) = some (.slice a24_15 n24_15 c24_15) ∧
        appendH h18 ty_S_int 1 [.slice none 0 0] a24_15 n24_15 c24_15 (some ⟨h17.size, 0, none⟩) 1 fun (a29_19 : Option Addr) (n29_19 c29_19 : Nat) (h19 : Heap) =>
        ∃ (e20 : TypeId) (c20 : List Value), Row h19 b3_9 e20 c20 ∧ o3_9 + 1 < c20.length ∧
        ∀ h21 : Heap, h21 = putRow h19 b3_9 e20 (c20.set (o3_9 + 1) (.slice a29_19 n29_19 c29_19)) →
        I11 [.int .i64 (IntKind.i64.wrap (x19_12 + 1))] h21 ∧ μ11 [.int .i64 (IntKind.i64.wrap (x19_12 + 1))] h21 < μ11 [.int .i64 x19_12] h11) ∧
      ((decide ((x19_12 : Int) < ((n17_10 : Nat) : Int))) = false →
        ∃ (a33_22 : Option Addr) (n33_22 c33_22 : Nat), cellAt h11 h.size 3 = some (.slice a33_22 n33_22 c33_22) ∧
        ∃ (I23 : List Value → Heap → Prop) (μ23 : List Value → Heap → Nat), I23 [.int .i64 0] h11 ∧
        ∀ h23 : Heap, ∀ (x35_24 : Int), I23 [.int .i64 x35_24] h23 →
          (((decide ((x35_24 : Int) < ((n33_22 : Nat) : Int))) = true →
            ∃ (a39_25 : Option Addr) (n39_25 c39_25 : Nat), cellAt h23 b3_9 (o3_9 + 3) = some (.slice a39_25 n39_25 c39_25) ∧
            ∃ (a42_26 : Option Addr) (n42_26 c42_26 : Nat), cellAt h23 h.size 3 = some (.slice a42_26 n42_26 c42_26) ∧
            ∃ (b44_27 o44_27 : Nat), a42_26 = some ⟨b44_27, o44_27, none⟩ ∧ (0 : Int) ≤ x35_24 ∧ (x35_24 : Int) < ((n42_26 : Nat) : Int) ∧
            ∃ (a45_28 : Option Addr) (n45_28 c45_28 : Nat), cellAt h23 b44_27 (o44_27 + x35_24.toNat) = some (.slice a45_28 n45_28 c45_28) ∧
            ∀ h29 : Heap, h29 = newRowH h23 ty_bool [] →
            cellAt h29 b44_27 (o44_27 + x35_24.toNat) = some (.slice a45_28 n45_28 c45_28) ∧
            cellAt h29 h.size 3 = some (.slice a42_26 n42_26 c42_26) ∧
            cellAt h29 b3_9 (o3_9 + 3) = some (.slice a39_25 n39_25 c39_25) ∧
            appendH h29 ty_bool 1 [.bool false] (some ⟨h23.size, 0, none⟩) 0 0 a45_28 n45_28 fun (a46_30 : Option Addr) (n46_30 c46_30 : Nat) (h30 : Heap) =>
            cellAt h30 b3_9 (o3_9 + 3) = some (.slice a39_25 n39_25 c39_25) ∧
            ∀ h31 : Heap, h31 = newRowH h30 ty_S_bool [.slice a46_30 n46_30 c46_30] →
            cellAt h31 b3_9 (o3_9 + 3) = some (.slice a39_25 n39_25 c39_25) ∧
            appendH h31 ty_S_bool 1 [.slice none 0 0] a39_25 n39_25 c39_25 (some ⟨h30.size, 0, none⟩) 1 fun (a48_32 : Option Addr) (n48_32 c48_32 : Nat) (h32 : Heap) =>
            ∃ (e33 : TypeId) (c33 : List Value), Row h32 b3_9 e33 c33 ∧ o3_9 + 3 < c33.length ∧
            ∀ h34 : Heap, h34 = putRow h32 b3_9 e33 (c33.set (o3_9 + 3) (.slice a48_32 n48_32 c48_32)) →
            ∃ (a51_35 : Option Addr) (n51_35 c51_35 : Nat), cellAt h34 b3_9 (o3_9 + 4) = some (.slice a51_35 n51_35 c51_35) ∧
            ∃ (a54_36 : Option Addr) (n54_36 c54_36 : Nat), cellAt h34 h.size 4 = some (.slice a54_36 n54_36 c54_36) ∧
            ∃ (b56_37 o56_37 : Nat), a54_36 = some ⟨b56_37, o56_37, none⟩ ∧ (0 : Int) ≤ x35_24 ∧ (x35_24 : Int) < ((n54_36 : Nat) : Int) ∧
            ∃ (a57_38 : Option Addr) (n57_38 c57_38 : Nat), cellAt h34 b56_37 (o56_37 + x35_24.toNat) = some (.slice a57_38 n57_38 c57_38) ∧
            ∀ h39 : Heap, h39 = newRowH h34 ty_int [] →
            cellAt h39 b56_37 (o56_37 + x35_24.toNat) = some (.slice a57_38 n57_38 c57_38) ∧
            cellAt h39 h.size 4 = some (.slice a54_36 n54_36 c54_36) ∧
            cellAt h39 b3_9 (o3_9 + 4) = some (.slice a51_35 n51_35 c51_35) ∧
            appendH h39 ty_int 1 [.int .i64 0] (some ⟨h34.size, 0, none⟩) 0 0 a57_38 n57_38 fun (a58_40 : Option Addr) (n58_40 c58_40 : Nat) (h40 : Heap) =>
            cellAt h40 b3_9 (o3_9 + 4) = some (.slice a51_35 n51_35 c51_35) ∧
            ∀ h41 : Heap, h41 = newRowH h40 ty_S_int [.slice a58_40 n58_40 c58_40] →
            cellAt h41 b3_9 (o3_9 + 4) = some (.slice a51_35 n51_35 c51_35) ∧
            appendH h41 ty_S_int 1 [.slice none 0 0] a51_35 n51_35 c51_35 (some ⟨h40.size, 0, none⟩) 1 fun (a60_42 : Option Addr) (n60_42 c60_42 : Nat) (h42 : Heap) =>
            ∃ (e43 : TypeId) (c43 : List Value), Row h42 b3_9 e43 c43 ∧ o3_9 + 4 < c43.length ∧
            ∀ h44 : Heap, h44 = putRow h42 b3_9 e43 (c43.set (o3_9 + 4) (.slice a60_42 n60_42 c60_42)) →
            I23 [.int .i64 (IntKind.i64.wrap (x35_24 + 1))] h44 ∧ μ23 [.int .i64 (IntKind.i64.wrap (x35_24 + 1))] h44 < μ23 [.int .i64 x35_24] h23) ∧
          ((decide ((x35_24 : Int) < ((n33_22 : Nat) : Int))) = false →
            ∃ (a63_0_45 : Option Addr) (n63_0_45 c63_0_45 : Nat), cellAt h23 b3_9 o3_9 = some (.slice a63_0_45 n63_0_45 c63_0_45) ∧
            ∃ (a63_1_46 : Option Addr) (n63_1_46 c63_1_46 : Nat), cellAt h23 b3_9 (o3_9 + 1) = some (.slice a63_1_46 n63_1_46 c63_1_46) ∧
            ∃ (a63_2_47 : Option Addr) (n63_2_47 c63_2_47 : Nat), cellAt h23 b3_9 (o3_9 + 2) = some (.slice a63_2_47 n63_2_47 c63_2_47) ∧
            ∃ (a63_3_48 : Option Addr) (n63_3_48 c63_3_48 : Nat), cellAt h23 b3_9 (o3_9 + 3) = some (.slice a63_3_48 n63_3_48 c63_3_48) ∧
            ∃ (a63_4_49 : Option Addr) (n63_4_49 c63_4_49 : Nat), cellAt h23 b3_9 (o3_9 + 4) = some (.slice a63_4_49 n63_4_49 c63_4_49) ∧
            ∃ (e50 : TypeId) (c50 : List Value), Row h23 h6.size e50 c50 ∧ 0 + 5 ≤ c50.length ∧
            ∀ h51 : Heap, h51 = putRow h23 h6.size e50 (splice c50 0 [.slice a63_0_45 n63_0_45 c63_0_45, .slice a63_1_46 n63_1_46 c63_1_46, .slice a63_2_47 n63_2_47 c63_2_47, .slice a63_3_48 n63_3_48 c63_3_48, .slice a63_4_49 n63_4_49 c63_4_49]) →
            ∃ (ar0_0_52 : Option Addr) (nr0_0_52 cr0_0_52 : Nat), cellAt h51 h6.size 0 = some (.slice ar0_0_52 nr0_0_52 cr0_0_52) ∧
            ∃ (ar0_1_53 : Option Addr) (nr0_1_53 cr0_1_53 : Nat), cellAt h51 h6.size 1 = some (.slice ar0_1_53 nr0_1_53 cr0_1_53) ∧
            ∃ (ar0_2_54 : Option Addr) (nr0_2_54 cr0_2_54 : Nat), cellAt h51 h6.size 2 = some (.slice ar0_2_54 nr0_2_54 cr0_2_54) ∧
            ∃ (ar0_3_55 : Option Addr) (nr0_3_55 cr0_3_55 : Nat), cellAt h51 h6.size 3 = some (.slice ar0_3_55 nr0_3_55 cr0_3_55) ∧
            ∃ (ar0_4_56 : Option Addr) (nr0_4_56 cr0_4_56 : Nat), cellAt h51 h6.size 4 = some (.slice ar0_4_56 nr0_4_56 cr0_4_56) ∧
            R (.agg ⟨[.slice ar0_0_52 nr0_0_52 cr0_0_52, .slice ar0_1_53 nr0_1_53 cr0_1_53, .slice ar0_2_54 nr0_2_54 cr0_2_54, .slice ar0_3_55 nr0_3_55 cr0_3_55, .slice ar0_4_56 nr0_4_56 cr0_4_56]⟩) h51))))) → K8 [.pointer (some ⟨b3_9, o3_9, none⟩)] h8) →
  ∃ (a9_57 : Option Addr) (n9_57 c9_57 : Nat), cellAt h7 h.size 0 = some (.slice a9_57 n9_57 c9_57) ∧
  ∃ (a13_58 : Option Addr) (n13_58 c13_58 : Nat), cellAt h7 h.size 2 = some (.slice a13_58 n13_58 c13_58) ∧
  ((∀ h99 : Heap, h99 = newRowH h7 ty_int [] →
    cellAt h99 h.size 2 = some (.slice a13_58 n13_58 c13_58) ∧
    cellAt h99 h.size 0 = some (.slice a9_57 n9_57 c9_57) ∧
    ((appendH h99 ty_int 1 [.int .i64 0] (some ⟨h7.size, 0, none⟩) 0 0 a9_57 n9_57 fun (a10_126 : Option Addr) (n10_126 c10_126 : Nat) (h126 : Heap) =>
      cellAt h126 h.size 2 = some (.slice a13_58 n13_58 c13_58) ∧
      ((∀ h132 : Heap, h132 = newRowH h126 ty_int [] →
        cellAt h132 h.size 2 = some (.slice a13_58 n13_58 c13_58) ∧
        ((appendH h132 ty_int 1 [.int .i64 0] (some ⟨h126.size, 0, none⟩) 0 0 a13_58 n13_58 fun (a14_137 : Option Addr) (n14_137 c14_137 : Nat) (h137 : Heap) =>
          ∀ h138 : Heap, h138 = newRowH h137 ty_impl_Bank [.slice none 0 0, .slice none 0 0, .slice none 0 0, .slice none 0 0, .slice none 0 0] →
          ∃ (e139 : TypeId) (c139 : List Value), Row h138 h137.size e139 c139 ∧ 0 + 5 ≤ c139.length ∧
          ∀ h140 : Heap, h140 = putRow h138 h137.size e139 (splice c139 0 [.slice a10_126 n10_126 c10_126, .slice none 0 0, .slice a14_137 n14_137 c14_137, .slice none 0 0, .slice none 0 0]) →
          K8 [.pointer (some ⟨h137.size, 0, none⟩)] h140) ∧
        (∀ h133 : Heap, h133 = newRowH h132 ty_impl_Bank [.slice none 0 0, .slice none 0 0, .slice none 0 0, .slice none 0 0, .slice none 0 0] →
          cellAt h133 h.size 2 = some (.slice a13_58 n13_58 c13_58) ∧
          appendH h133 ty_int 1 [.int .i64 0] (some ⟨h126.size, 0, none⟩) 0 0 a13_58 n13_58 fun (a14_134 : Option Addr) (n14_134 c14_134 : Nat) (h134 : Heap) =>
          ∃ (e135 : TypeId) (c135 : List Value), Row h134 h132.size e135 c135 ∧ 0 + 5 ≤ c135.length ∧
          ∀ h136 : Heap, h136 = putRow h134 h132.size e135 (splice c135 0 [.slice a10_126 n10_126 c10_126, .slice none 0 0, .slice a14_134 n14_134 c14_134, .slice none 0 0, .slice none 0 0]) →
          K8 [.pointer (some ⟨h132.size, 0, none⟩)] h136))) ∧
      (∀ h127 : Heap, h127 = newRowH h126 ty_impl_Bank [.slice none 0 0, .slice none 0 0, .slice none 0 0, .slice none 0 0, .slice none 0 0] →
        cellAt h127 h.size 2 = some (.slice a13_58 n13_58 c13_58) ∧
        ∀ h128 : Heap, h128 = newRowH h127 ty_int [] →
        cellAt h128 h.size 2 = some (.slice a13_58 n13_58 c13_58) ∧
        appendH h128 ty_int 1 [.int .i64 0] (some ⟨h127.size, 0, none⟩) 0 0 a13_58 n13_58 fun (a14_129 : Option Addr) (n14_129 c14_129 : Nat) (h129 : Heap) =>
        ∃ (e130 : TypeId) (c130 : List Value), Row h129 h126.size e130 c130 ∧ 0 + 5 ≤ c130.length ∧
        ∀ h131 : Heap, h131 = putRow h129 h126.size e130 (splice c130 0 [.slice a10_126 n10_126 c10_126, .slice none 0 0, .slice a14_129 n14_129 c14_129, .slice none 0 0, .slice none 0 0]) →
        K8 [.pointer (some ⟨h126.size, 0, none⟩)] h131))) ∧
    ((∀ h111 : Heap, h111 = newRowH h99 ty_int [] →
      cellAt h111 h.size 2 = some (.slice a13_58 n13_58 c13_58) ∧
      cellAt h111 h.size 0 = some (.slice a9_57 n9_57 c9_57) ∧
      ((appendH h111 ty_int 1 [.int .i64 0] (some ⟨h7.size, 0, none⟩) 0 0 a9_57 n9_57 fun (a10_117 : Option Addr) (n10_117 c10_117 : Nat) (h117 : Heap) =>
        cellAt h117 h.size 2 = some (.slice a13_58 n13_58 c13_58) ∧
        ((appendH h117 ty_int 1 [.int .i64 0] (some ⟨h99.size, 0, none⟩) 0 0 a13_58 n13_58 fun (a14_122 : Option Addr) (n14_122 c14_122 : Nat) (h122 : Heap) =>
          ∀ h123 : Heap, h123 = newRowH h122 ty_impl_Bank [.slice none 0 0, .slice none 0 0, .slice none 0 0, .slice none 0 0, .slice none 0 0] →
          ∃ (e124 : TypeId) (c124 : List Value), Row h123 h122.size e124 c124 ∧ 0 + 5 ≤ c124.length ∧
          ∀ h125 : Heap, h125 = putRow h123 h122.size e124 (splice c124 0 [.slice a10_117 n10_117 c10_117, .slice none 0 0, .slice a14_122 n14_122 c14_122, .slice none 0 0, .slice none 0 0]) →
          K8 [.pointer (some ⟨h122.size, 0, none⟩)] h125) ∧
        (∀ h118 : Heap, h118 = newRowH h117 ty_impl_Bank [.slice none 0 0, .slice none 0 0, .slice none 0 0, .slice none 0 0, .slice none 0 0] →
          cellAt h118 h.size 2 = some (.slice a13_58 n13_58 c13_58) ∧
          appendH h118 ty_int 1 [.int .i64 0] (some ⟨h99.size, 0, none⟩) 0 0 a13_58 n13_58 fun (a14_119 : Option Addr) (n14_119 c14_119 : Nat) (h119 : Heap) =>
          ∃ (e120 : TypeId) (c120 : List Value), Row h119 h117.size e120 c120 ∧ 0 + 5 ≤ c120.length ∧
          ∀ h121 : Heap, h121 = putRow h119 h117.size e120 (splice c120 0 [.slice a10_117 n10_117 c10_117, .slice none 0 0, .slice a14_119 n14_119 c14_119, .slice none 0 0, .slice none 0 0]) →
          K8 [.pointer (some ⟨h117.size, 0, none⟩)] h121))) ∧
      (∀ h112 : Heap, h112 = newRowH h111 ty_impl_Bank [.slice none 0 0, .slice none 0 0, .slice none 0 0, .slice none 0 0, .slice none 0 0] →
        cellAt h112 h.size 2 = some (.slice a13_58 n13_58 c13_58) ∧
        cellAt h112 h.size 0 = some (.slice a9_57 n9_57 c9_57) ∧
        appendH h112 ty_int 1 [.int .i64 0] (some ⟨h7.size, 0, none⟩) 0 0 a9_57 n9_57 fun (a10_113 : Option Addr) (n10_113 c10_113 : Nat) (h113 : Heap) =>
        cellAt h113 h.size 2 = some (.slice a13_58 n13_58 c13_58) ∧
        appendH h113 ty_int 1 [.int .i64 0] (some ⟨h99.size, 0, none⟩) 0 0 a13_58 n13_58 fun (a14_114 : Option Addr) (n14_114 c14_114 : Nat) (h114 : Heap) =>
        ∃ (e115 : TypeId) (c115 : List Value), Row h114 h111.size e115 c115 ∧ 0 + 5 ≤ c115.length ∧
        ∀ h116 : Heap, h116 = putRow h114 h111.size e115 (splice c115 0 [.slice a10_113 n10_113 c10_113, .slice none 0 0, .slice a14_114 n14_114 c14_114, .slice none 0 0, .slice none 0 0]) →
        K8 [.pointer (some ⟨h111.size, 0, none⟩)] h116))) ∧
    (∀ h100 : Heap, h100 = newRowH h99 ty_impl_Bank [.slice none 0 0, .slice none 0 0, .slice none 0 0, .slice none 0 0, .slice none 0 0] →
      cellAt h100 h.size 2 = some (.slice a13_58 n13_58 c13_58) ∧
      cellAt h100 h.size 0 = some (.slice a9_57 n9_57 c9_57) ∧
      ((appendH h100 ty_int 1 [.int .i64 0] (some ⟨h7.size, 0, none⟩) 0 0 a9_57 n9_57 fun (a10_106 : Option Addr) (n10_106 c10_106 : Nat) (h106 : Heap) =>
        cellAt h106 h.size 2 = some (.slice a13_58 n13_58 c13_58) ∧
        ∀ h107 : Heap, h107 = newRowH h106 ty_int [] →
        cellAt h107 h.size 2 = some (.slice a13_58 n13_58 c13_58) ∧
        appendH h107 ty_int 1 [.int .i64 0] (some ⟨h106.size, 0, none⟩) 0 0 a13_58 n13_58 fun (a14_108 : Option Addr) (n14_108 c14_108 : Nat) (h108 : Heap) =>
        ∃ (e109 : TypeId) (c109 : List Value), Row h108 h99.size e109 c109 ∧ 0 + 5 ≤ c109.length ∧
        ∀ h110 : Heap, h110 = putRow h108 h99.size e109 (splice c109 0 [.slice a10_106 n10_106 c10_106, .slice none 0 0, .slice a14_108 n14_108 c14_108, .slice none 0 0, .slice none 0 0]) →
        K8 [.pointer (some ⟨h99.size, 0, none⟩)] h110) ∧
      (∀ h101 : Heap, h101 = newRowH h100 ty_int [] →
        cellAt h101 h.size 2 = some (.slice a13_58 n13_58 c13_58) ∧
        cellAt h101 h.size 0 = some (.slice a9_57 n9_57 c9_57) ∧
        appendH h101 ty_int 1 [.int .i64 0] (some ⟨h7.size, 0, none⟩) 0 0 a9_57 n9_57 fun (a10_102 : Option Addr) (n10_102 c10_102 : Nat) (h102 : Heap) =>
        cellAt h102 h.size 2 = some (.slice a13_58 n13_58 c13_58) ∧
        appendH h102 ty_int 1 [.int .i64 0] (some ⟨h100.size, 0, none⟩) 0 0 a13_58 n13_58 fun (a14_103 : Option Addr) (n14_103 c14_103 : Nat) (h103 : Heap) =>
        ∃ (e104 : TypeId) (c104 : List Value), Row h103 h99.size e104 c104 ∧ 0 + 5 ≤ c104.length ∧
        ∀ h105 : Heap, h105 = putRow h103 h99.size e104 (splice c104 0 [.slice a10_102 n10_102 c10_102, .slice none 0 0, .slice a14_103 n14_103 c14_103, .slice none 0 0, .slice none 0 0]) →
        K8 [.pointer (some ⟨h99.size, 0, none⟩)] h105)))))) ∧
  ((∀ h77 : Heap, h77 = newRowH h7 ty_int [] →
    cellAt h77 h.size 2 = some (.slice a13_58 n13_58 c13_58) ∧
    cellAt h77 h.size 0 = some (.slice a9_57 n9_57 c9_57) ∧
    ((∀ h84 : Heap, h84 = newRowH h77 ty_int [] →
      cellAt h84 h.size 2 = some (.slice a13_58 n13_58 c13_58) ∧
      cellAt h84 h.size 0 = some (.slice a9_57 n9_57 c9_57) ∧
      ((appendH h84 ty_int 1 [.int .i64 0] (some ⟨h77.size, 0, none⟩) 0 0 a9_57 n9_57 fun (a10_90 : Option Addr) (n10_90 c10_90 : Nat) (h90 : Heap) =>
        cellAt h90 h.size 2 = some (.slice a13_58 n13_58 c13_58) ∧
        ((appendH h90 ty_int 1 [.int .i64 0] (some ⟨h7.size, 0, none⟩) 0 0 a13_58 n13_58 fun (a14_95 : Option Addr) (n14_95 c14_95 : Nat) (h95 : Heap) =>
          ∀ h96 : Heap, h96 = newRowH h95 ty_impl_Bank [.slice none 0 0, .slice none 0 0, .slice none 0 0, .slice none 0 0, .slice none 0 0] →
          ∃ (e97 : TypeId) (c97 : List Value), Row h96 h95.size e97 c97 ∧ 0 + 5 ≤ c97.length ∧
          ∀ h98 : Heap, h98 = putRow h96 h95.size e97 (splice c97 0 [.slice a10_90 n10_90 c10_90, .slice none 0 0, .slice a14_95 n14_95 c14_95, .slice none 0 0, .slice none 0 0]) →
          K8 [.pointer (some ⟨h95.size, 0, none⟩)] h98) ∧
        (∀ h91 : Heap, h91 = newRowH h90 ty_impl_Bank [.slice none 0 0, .slice none 0 0, .slice none 0 0, .slice none 0 0, .slice none 0 0] →
          cellAt h91 h.size 2 = some (.slice a13_58 n13_58 c13_58) ∧
          appendH h91 ty_int 1 [.int .i64 0] (some ⟨h7.size, 0, none⟩) 0 0 a13_58 n13_58 fun (a14_92 : Option Addr) (n14_92 c14_92 : Nat) (h92 : Heap) =>
          ∃ (e93 : TypeId) (c93 : List Value), Row h92 h90.size e93 c93 ∧ 0 + 5 ≤ c93.length ∧
          ∀ h94 : Heap, h94 = putRow h92 h90.size e93 (splice c93 0 [.slice a10_90 n10_90 c10_90, .slice none 0 0, .slice a14_92 n14_92 c14_92, .slice none 0 0, .slice none 0 0]) →
          K8 [.pointer (some ⟨h90.size, 0, none⟩)] h94))) ∧
      (∀ h85 : Heap, h85 = newRowH h84 ty_impl_Bank [.slice none 0 0, .slice none 0 0, .slice none 0 0, .slice none 0 0, .slice none 0 0] →
        cellAt h85 h.size 2 = some (.slice a13_58 n13_58 c13_58) ∧
        cellAt h85 h.size 0 = some (.slice a9_57 n9_57 c9_57) ∧
        appendH h85 ty_int 1 [.int .i64 0] (some ⟨h77.size, 0, none⟩) 0 0 a9_57 n9_57 fun (a10_86 : Option Addr) (n10_86 c10_86 : Nat) (h86 : Heap) =>
        cellAt h86 h.size 2 = some (.slice a13_58 n13_58 c13_58) ∧
        appendH h86 ty_int 1 [.int .i64 0] (some ⟨h7.size, 0, none⟩) 0 0 a13_58 n13_58 fun (a14_87 : Option Addr) (n14_87 c14_87 : Nat) (h87 : Heap) =>
        ∃ (e88 : TypeId) (c88 : List Value), Row h87 h84.size e88 c88 ∧ 0 + 5 ≤ c88.length ∧
        ∀ h89 : Heap, h89 = putRow h87 h84.size e88 (splice c88 0 [.slice a10_86 n10_86 c10_86, .slice none 0 0, .slice a14_87 n14_87 c14_87, .slice none 0 0, .slice none 0 0]) →
        K8 [.pointer (some ⟨h84.size, 0, none⟩)] h89))) ∧
    (∀ h78 : Heap, h78 = newRowH h77 ty_impl_Bank [.slice none 0 0, .slice none 0 0, .slice none 0 0, .slice none 0 0, .slice none 0 0] →
      cellAt h78 h.size 2 = some (.slice a13_58 n13_58 c13_58) ∧
      cellAt h78 h.size 0 = some (.slice a9_57 n9_57 c9_57) ∧
      ∀ h79 : Heap, h79 = newRowH h78 ty_int [] →
      cellAt h79 h.size 2 = some (.slice a13_58 n13_58 c13_58) ∧
      cellAt h79 h.size 0 = some (.slice a9_57 n9_57 c9_57) ∧
      appendH h79 ty_int 1 [.int .i64 0] (some ⟨h78.size, 0, none⟩) 0 0 a9_57 n9_57 fun (a10_80 : Option Addr) (n10_80 c10_80 : Nat) (h80 : Heap) =>
      cellAt h80 h.size 2 = some (.slice a13_58 n13_58 c13_58) ∧
      appendH h80 ty_int 1 [.int .i64 0] (some ⟨h7.size, 0, none⟩) 0 0 a13_58 n13_58 fun (a14_81 : Option Addr) (n14_81 c14_81 : Nat) (h81 : Heap) =>
      ∃ (e82 : TypeId) (c82 : List Value), Row h81 h77.size e82 c82 ∧ 0 + 5 ≤ c82.length ∧
      ∀ h83 : Heap, h83 = putRow h81 h77.size e82 (splice c82 0 [.slice a10_80 n10_80 c10_80, .slice none 0 0, .slice a14_81 n14_81 c14_81, .slice none 0 0, .slice none 0 0]) →
      K8 [.pointer (some ⟨h77.size, 0, none⟩)] h83))) ∧
  (∀ h59 : Heap, h59 = newRowH h7 ty_impl_Bank [.slice none 0 0, .slice none 0 0, .slice none 0 0, .slice none 0 0, .slice none 0 0] →
    cellAt h59 h.size 2 = some (.slice a13_58 n13_58 c13_58) ∧
    cellAt h59 h.size 0 = some (.slice a9_57 n9_57 c9_57) ∧
    ((∀ h66 : Heap, h66 = newRowH h59 ty_int [] →
      cellAt h66 h.size 2 = some (.slice a13_58 n13_58 c13_58) ∧
      cellAt h66 h.size 0 = some (.slice a9_57 n9_57 c9_57) ∧
      ((appendH h66 ty_int 1 [.int .i64 0] (some ⟨h59.size, 0, none⟩) 0 0 a9_57 n9_57 fun (a10_72 : Option Addr) (n10_72 c10_72 : Nat) (h72 : Heap) =>
        cellAt h72 h.size 2 = some (.slice a13_58 n13_58 c13_58) ∧
        ∀ h73 : Heap, h73 = newRowH h72 ty_int [] →
        cellAt h73 h.size 2 = some (.slice a13_58 n13_58 c13_58) ∧
        appendH h73 ty_int 1 [.int .i64 0] (some ⟨h72.size, 0, none⟩) 0 0 a13_58 n13_58 fun (a14_74 : Option Addr) (n14_74 c14_74 : Nat) (h74 : Heap) =>
        ∃ (e75 : TypeId) (c75 : List Value), Row h74 h7.size e75 c75 ∧ 0 + 5 ≤ c75.length ∧
        ∀ h76 : Heap, h76 = putRow h74 h7.size e75 (splice c75 0 [.slice a10_72 n10_72 c10_72, .slice none 0 0, .slice a14_74 n14_74 c14_74, .slice none 0 0, .slice none 0 0]) →
        K8 [.pointer (some ⟨h7.size, 0, none⟩)] h76) ∧
      (∀ h67 : Heap, h67 = newRowH h66 ty_int [] →
        cellAt h67 h.size 2 = some (.slice a13_58 n13_58 c13_58) ∧
        cellAt h67 h.size 0 = some (.slice a9_57 n9_57 c9_57) ∧
        appendH h67 ty_int 1 [.int .i64 0] (some ⟨h59.size, 0, none⟩) 0 0 a9_57 n9_57 fun (a10_68 : Option Addr) (n10_68 c10_68 : Nat) (h68 : Heap) =>
        cellAt h68 h.size 2 = some (.slice a13_58 n13_58 c13_58) ∧
        appendH h68 ty_int 1 [.int .i64 0] (some ⟨h66.size, 0, none⟩) 0 0 a13_58 n13_58 fun (a14_69 : Option Addr) (n14_69 c14_69 : Nat) (h69 : Heap) =>
        ∃ (e70 : TypeId) (c70 : List Value), Row h69 h7.size e70 c70 ∧ 0 + 5 ≤ c70.length ∧
        ∀ h71 : Heap, h71 = putRow h69 h7.size e70 (splice c70 0 [.slice a10_68 n10_68 c10_68, .slice none 0 0, .slice a14_69 n14_69 c14_69, .slice none 0 0, .slice none 0 0]) →
        K8 [.pointer (some ⟨h7.size, 0, none⟩)] h71))) ∧
    (∀ h60 : Heap, h60 = newRowH h59 ty_int [] →
      cellAt h60 h.size 2 = some (.slice a13_58 n13_58 c13_58) ∧
      cellAt h60 h.size 0 = some (.slice a9_57 n9_57 c9_57) ∧
      ∀ h61 : Heap, h61 = newRowH h60 ty_int [] →
      cellAt h61 h.size 2 = some (.slice a13_58 n13_58 c13_58) ∧
      cellAt h61 h.size 0 = some (.slice a9_57 n9_57 c9_57) ∧
      appendH h61 ty_int 1 [.int .i64 0] (some ⟨h60.size, 0, none⟩) 0 0 a9_57 n9_57 fun (a10_62 : Option Addr) (n10_62 c10_62 : Nat) (h62 : Heap) =>
      cellAt h62 h.size 2 = some (.slice a13_58 n13_58 c13_58) ∧
      appendH h62 ty_int 1 [.int .i64 0] (some ⟨h59.size, 0, none⟩) 0 0 a13_58 n13_58 fun (a14_63 : Option Addr) (n14_63 c14_63 : Nat) (h63 : Heap) =>
      ∃ (e64 : TypeId) (c64 : List Value), Row h63 h7.size e64 c64 ∧ 0 + 5 ≤ c64.length ∧
      ∀ h65 : Heap, h65 = putRow h63 h7.size e64 (splice c64 0 [.slice a10_62 n10_62 c10_62, .slice none 0 0, .slice a14_63 n14_63 c14_63, .slice none 0 0, .slice none 0 0]) →
      K8 [.pointer (some ⟨h7.size, 0, none⟩)] h65)))))
def plan_spec_l12Own : Plan := .seq none (.leaf) (.seq (some [(3, .l (.ptrN))]) (.draw (.op 1 (.op 2 (.op 5 (.op 6 (.fork (.op 0 (.fork (.op 3 (.fork (.op 4 (.fork (.op 7 (.op 8 (.op 9 (.op 10 .done)))) (.op 9 (.op 7 (.op 8 (.op 10 .done)))))) (.op 9 (.op 4 (.op 7 (.op 8 (.op 10 .done))))))) (.fork (.op 4 (.fork (.op 3 (.fork (.op 7 (.op 8 (.op 9 (.op 10 .done)))) (.op 9 (.op 7 (.op 8 (.op 10 .done)))))) (.op 9 (.op 3 (.op 7 (.op 8 (.op 10 .done))))))) (.op 9 (.fork (.op 3 (.op 4 (.op 7 (.op 8 (.op 10 .done))))) (.op 4 (.op 3 (.op 7 (.op 8 (.op 10 .done)))))))))) (.fork (.op 4 (.fork (.op 0 (.fork (.op 3 (.fork (.op 7 (.op 8 (.op 9 (.op 10 .done)))) (.op 9 (.op 7 (.op 8 (.op 10 .done)))))) (.op 9 (.op 3 (.op 7 (.op 8 (.op 10 .done))))))) (.op 9 (.op 0 (.op 3 (.op 7 (.op 8 (.op 10 .done)))))))) (.op 9 (.fork (.op 0 (.fork (.op 3 (.op 4 (.op 7 (.op 8 (.op 10 .done))))) (.op 4 (.op 3 (.op 7 (.op 8 (.op 10 .done))))))) (.op 4 (.op 0 (.op 3 (.op 7 (.op 8 (.op 10 .done))))))))))))))) (.seq none (.seq none (.leaf) (.block (.loop [(19, .l (.int .i64))] (.seq none (.leaf) (.seq none (.cond (.leaf) (.leaf)) (.seq none (.block (.seq none (.leaf) (.draw (.op 0 (.op 1 (.op 3 (.op 2 (.op 4 (.op 5 (.op 6 (.op 7 (.op 8 .done)))))))))))) (.leaf))))))) (.seq none (.seq none (.leaf) (.block (.loop [(35, .l (.int .i64))] (.seq none (.leaf) (.seq none (.cond (.leaf) (.leaf)) (.seq none (.block (.seq none (.leaf) (.seq none (.draw (.op 0 (.op 1 (.op 3 (.op 4 (.op 5 (.op 6 (.op 7 (.op 2 (.op 8 (.op 9 (.op 10 (.op 11 (.op 12 .done)))))))))))))) (.draw (.op 0 (.op 1 (.op 3 (.op 4 (.op 5 (.op 6 (.op 7 (.op 2 (.op 8 (.op 9 (.op 10 (.op 11 (.op 12 .done))))))))))))))))) (.leaf))))))) (.seq none (.leaf) (.leaf)))))
theorem tie_spec_l12Own : (fun (ap0_0_1 : Option Addr) (np0_0_1 cp0_0_1 : Nat) (ap0_1_2 : Option Addr) (np0_1_2 cp0_1_2 : Nat) (ap0_2_3 : Option Addr) (np0_2_3 cp0_2_3 : Nat) (ap0_3_4 : Option Addr) (np0_3_4 cp0_3_4 : Nat) (ap0_4_5 : Option Addr) (np0_4_5 cp0_4_5 : Nat) (h : Heap) (R : Value → Heap → Prop) => denF X0 Try.f83 (bodyOf Try.f83) plan_spec_l12Own [.agg [.sl ap0_0_1 np0_0_1 cp0_0_1, .sl ap0_1_2 np0_1_2 cp0_1_2, .sl ap0_2_3 np0_2_3 cp0_2_3, .sl ap0_3_4 np0_3_4 cp0_3_4, .sl ap0_4_5 np0_4_5 cp0_4_5]] h R) = M_spec_l12Own := by kernel_rfl
theorem calls_spec_l12Own (ap0_0_1 : Option Addr) (np0_0_1 cp0_0_1 : Nat) (ap0_1_2 : Option Addr) (np0_1_2 cp0_1_2 : Nat) (ap0_2_3 : Option Addr) (np0_2_3 cp0_2_3 : Nat) (ap0_3_4 : Option Addr) (np0_3_4 cp0_3_4 : Nat) (ap0_4_5 : Option Addr) (np0_4_5 cp0_4_5 : Nat) {h : Heap} {R : Value → Heap → Prop} (hm : M_spec_l12Own ap0_0_1 np0_0_1 cp0_0_1 ap0_1_2 np0_1_2 cp0_1_2 ap0_2_3 np0_2_3 cp0_2_3 ap0_3_4 np0_3_4 cp0_3_4 ap0_4_5 np0_4_5 cp0_4_5 h R) : CallsH PP fn_spec_l12Own [.agg ⟨[.slice ap0_0_1 np0_0_1 cp0_0_1, .slice ap0_1_2 np0_1_2 cp0_1_2, .slice ap0_2_3 np0_2_3 cp0_2_3, .slice ap0_3_4 np0_3_4 cp0_3_4, .slice ap0_4_5 np0_4_5 cp0_4_5]⟩] h R :=
  callsH_of X0ok Try.func83 (by kernel_rfl) plan_spec_l12Own [.agg [.sl ap0_0_1 np0_0_1 cp0_0_1, .sl ap0_1_2 np0_1_2 cp0_1_2, .sl ap0_2_3 np0_2_3 cp0_2_3, .sl ap0_3_4 np0_3_4 cp0_3_4, .sl ap0_4_5 np0_4_5 cp0_4_5]] (Eq.mpr (congrFun (congrFun (congrFun (congrFun (congrFun (congrFun (congrFun (congrFun (congrFun (congrFun (congrFun (congrFun (congrFun (congrFun (congrFun (congrFun (congrFun tie_spec_l12Own ap0_0_1) np0_0_1) cp0_0_1) ap0_1_2) np0_1_2) cp0_1_2) ap0_2_3) np0_2_3) cp0_2_3) ap0_3_4) np0_3_4) cp0_3_4) ap0_4_5) np0_4_5) cp0_4_5) h) R) hm)
/- 115: spec.l1In -/
def M_spec_l1In (xp0_1 : Int) (xp1_2 : Int) (xp2_3 : Int) (h : Heap) (R : Value → Heap → Prop) : Prop :=
  (((decide ((xp0_1 : Int) ≥ xp1_2)) = true →
    R (.bool (decide ((xp0_1 : Int) ≤ xp2_3))) h) ∧
  ((decide ((xp0_1 : Int) ≥ xp1_2)) = false →
    R (.bool false) h))
def plan_spec_l1In : Plan := .seq none (.leaf) (.seq none (.leaf) (.leaf))
theorem tie_spec_l1In : (fun (xp0_1 : Int) (xp1_2 : Int) (xp2_3 : Int) (h : Heap) (R : Value → Heap → Prop) => denF X0 Try.f115 (bodyOf Try.f115) plan_spec_l1In [.l (.int .i64 xp0_1), .l (.int .i64 xp1_2), .l (.int .i64 xp2_3)] h R) = M_spec_l1In := by kernel_rfl
theorem calls_spec_l1In (xp0_1 : Int) (xp1_2 : Int) (xp2_3 : Int) {h : Heap} {R : Value → Heap → Prop} (hm : M_spec_l1In xp0_1 xp1_2 xp2_3 h R) : CallsH PP fn_spec_l1In [.int .i64 xp0_1, .int .i64 xp1_2, .int .i64 xp2_3] h R :=
  callsH_of X0ok Try.func115 (by kernel_rfl) plan_spec_l1In [.l (.int .i64 xp0_1), .l (.int .i64 xp1_2), .l (.int .i64 xp2_3)] (Eq.mpr (congrFun (congrFun (congrFun (congrFun (congrFun tie_spec_l1In xp0_1) xp1_2) xp2_3) h) R) hm)
/- 144: spec.l1All -/
def M_spec_l1All (ap0_1 : Option Addr) (np0_1 cp0_1 : Nat) (xp1_2 : Int) (xp2_3 : Int) (h : Heap) (R : Value → Heap → Prop) : Prop :=
  ∃ (I4 : List Value → Heap → Prop) (μ4 : List Value → Heap → Nat), I4 [.int .i64 0] h ∧
  ∀ h4 : Heap, ∀ (x11_5 : Int), I4 [.int .i64 x11_5] h4 →
    (((decide ((x11_5 : Int) < ((np0_1 : Nat) : Int))) = true →
      ∃ (b13_6 o13_6 : Nat), ap0_1 = some ⟨b13_6, o13_6, none⟩ ∧ (0 : Int) ≤ x11_5 ∧ (x11_5 : Int) < ((np0_1 : Nat) : Int) ∧
      ∃ (x14_7 : Int), cellAt h4 b13_6 (o13_6 + x11_5.toNat) = some (.int .i64 x14_7) ∧
      CallsH PP fn_spec_l1In [.int .i64 x14_7, .int .i64 xp1_2, .int .i64 xp2_3] h4 fun (v8 : Value) (h8 : Heap) =>
      ∃ (t18_9 : Bool), v8 = .bool t18_9 ∧
      (((!t18_9) = true →
        R (.bool false) h8) ∧
      ((!t18_9) = false →
        I4 [.int .i64 (IntKind.i64.wrap (x11_5 + 1))] h8 ∧ μ4 [.int .i64 (IntKind.i64.wrap (x11_5 + 1))] h8 < μ4 [.int .i64 x11_5] h4))) ∧
    ((decide ((x11_5 : Int) < ((np0_1 : Nat) : Int))) = false →
      R (.bool true) h4))
def plan_spec_l1All : Plan := .seq none (.leaf) (.seq none (.seq none (.leaf) (.block (.loop [(11, .l (.int .i64))] (.seq none (.leaf) (.seq none (.cond (.leaf) (.leaf)) (.seq none (.block (.seq none (.leaf) (.seq none (.leaf) (.cond (.seq none (.leaf) (.leaf)) (.leaf))))) (.leaf))))))) (.seq none (.leaf) (.leaf)))
theorem tie_spec_l1All : (fun (ap0_1 : Option Addr) (np0_1 cp0_1 : Nat) (xp1_2 : Int) (xp2_3 : Int) (h : Heap) (R : Value → Heap → Prop) => denF X0 Try.f144 (bodyOf Try.f144) plan_spec_l1All [.l (.sl ap0_1 np0_1 cp0_1), .l (.int .i64 xp1_2), .l (.int .i64 xp2_3)] h R) = M_spec_l1All := by kernel_rfl
theorem calls_spec_l1All (ap0_1 : Option Addr) (np0_1 cp0_1 : Nat) (xp1_2 : Int) (xp2_3 : Int) {h : Heap} {R : Value → Heap → Prop} (hm : M_spec_l1All ap0_1 np0_1 cp0_1 xp1_2 xp2_3 h R) : CallsH PP fn_spec_l1All [.slice ap0_1 np0_1 cp0_1, .int .i64 xp1_2, .int .i64 xp2_3] h R :=
  callsH_of X0ok Try.func144 (by kernel_rfl) plan_spec_l1All [.l (.sl ap0_1 np0_1 cp0_1), .l (.int .i64 xp1_2), .l (.int .i64 xp2_3)] (Eq.mpr (congrFun (congrFun (congrFun (congrFun (congrFun (congrFun (congrFun tie_spec_l1All ap0_1) np0_1) cp0_1) xp1_2) xp2_3) h) R) hm)
/- 157: spec.l12Picture -/
def M_spec_l12Picture (ap0_0_1 : Option Addr) (np0_0_1 cp0_0_1 : Nat) (ap0_1_2 : Option Addr) (np0_1_2 cp0_1_2 : Nat) (ap0_2_3 : Option Addr) (np0_2_3 cp0_2_3 : Nat) (ap0_3_4 : Option Addr) (np0_3_4 cp0_3_4 : Nat) (ap0_4_5 : Option Addr) (np0_4_5 cp0_4_5 : Nat) (xp1_6 : Int) (h : Heap) (R : Value → Heap → Prop) : Prop :=
  ∀ h7 : Heap, h7 = newRowH h ty_impl_Bank [.slice ap0_0_1 np0_0_1 cp0_0_1, .slice ap0_1_2 np0_1_2 cp0_1_2, .slice ap0_2_3 np0_2_3 cp0_2_3, .slice ap0_3_4 np0_3_4 cp0_3_4, .slice ap0_4_5 np0_4_5 cp0_4_5] →
  ∀ h8 : Heap, h8 = newRowH h7 ty_impl_Bank [.slice none 0 0, .slice none 0 0, .slice none 0 0, .slice none 0 0, .slice none 0 0] →
  ∃ (a8_9 : Option Addr) (n8_9 c8_9 : Nat), cellAt h8 h.size 0 = some (.slice a8_9 n8_9 c8_9) ∧
  ∃ (a11_10 : Option Addr) (n11_10 c11_10 : Nat), cellAt h8 h.size 2 = some (.slice a11_10 n11_10 c11_10) ∧
  ∃ (a14_11 : Option Addr) (n14_11 c14_11 : Nat), cellAt h8 h.size 0 = some (.slice a14_11 n14_11 c14_11) ∧
  ∃ (b16_12 o16_12 : Nat), a14_11 = some ⟨b16_12, o16_12, none⟩ ∧ (0 : Int) ≤ xp1_6 ∧ (xp1_6 : Int) < ((n14_11 : Nat) : Int) ∧
  ∃ (x17_13 : Int), cellAt h8 b16_12 (o16_12 + xp1_6.toNat) = some (.int .i64 x17_13) ∧
  ∃ (b18_14 o18_14 : Nat), a11_10 = some ⟨b18_14, o18_14, none⟩ ∧ (0 : Int) ≤ xp1_6 ∧ (xp1_6 : Int) < ((n11_10 : Nat) : Int) ∧
  ∃ (e15 : TypeId) (c15 : List Value), Row h8 b18_14 e15 c15 ∧ o18_14 + xp1_6.toNat < c15.length ∧
  ∀ h16 : Heap, h16 = putRow h8 b18_14 e15 (c15.set (o18_14 + xp1_6.toNat) (.int .i64 x17_13)) →
  ∃ (I17 : List Value → Heap → Prop) (μ17 : List Value → Heap → Nat), I17 [.int .i64 0] h16 ∧
  ∀ h17 : Heap, ∀ (x6_18 : Int), I17 [.int .i64 x6_18] h17 →
    (((decide ((x6_18 : Int) < ((n8_9 : Nat) : Int))) = true →
      ((((x6_18 : Int) != xp1_6) = true →
        ∃ (a28_19 : Option Addr) (n28_19 c28_19 : Nat), cellAt h17 h.size 1 = some (.slice a28_19 n28_19 c28_19) ∧
        ∃ (a35_20 : Option Addr) (n35_20 c35_20 : Nat), cellAt h17 h.size 1 = some (.slice a35_20 n35_20 c35_20) ∧
        ∃ (b41_21 o41_21 : Nat), a35_20 = some ⟨b41_21, o41_21, none⟩ ∧ (0 : Int) ≤ IntKind.i64.wrap ((IntKind.i64.wrap (xp1_6 * ((n8_9 : Nat) : Int))) + x6_18) ∧ (IntKind.i64.wrap ((IntKind.i64.wrap (xp1_6 * ((n8_9 : Nat) : Int))) + x6_18) : Int) < ((n35_20 : Nat) : Int) ∧
        ∃ (a42_22 : Option Addr) (n42_22 c42_22 : Nat), cellAt h17 b41_21 (o41_21 + ((IntKind.i64.wrap ((IntKind.i64.wrap (xp1_6 * ((n8_9 : Nat) : Int))) + x6_18)).toNat)) = some (.slice a42_22 n42_22 c42_22) ∧
        ∀ h23 : Heap, h23 = newRowH h17 ty_int [.int .i64 0] →
        cellAt h23 b41_21 (o41_21 + ((IntKind.i64.wrap ((IntKind.i64.wrap (xp1_6 * ((n8_9 : Nat) : Int))) + x6_18)).toNat)) = some (.slice a42_22 n42_22 c42_22) ∧
        cellAt h23 h.size 1 = some (.slice a35_20 n35_20 c35_20) ∧
        cellAt h23 h.size 1 = some (.slice a28_19 n28_19 c28_19) ∧
        appendH h23 ty_int 1 [.int .i64 0] a42_22 n42_22 c42_22 (some ⟨h17.size, 0, none⟩) 1 fun (a44_24 : Option Addr) (n44_24 c44_24 : Nat) (h24 : Heap) =>
        cellAt h24 h.size 1 = some (.slice a28_19 n28_19 c28_19) ∧
        ∃ (b45_25 o45_25 : Nat), a28_19 = some ⟨b45_25, o45_25, none⟩ ∧ (0 : Int) ≤ IntKind.i64.wrap ((IntKind.i64.wrap (xp1_6 * ((n8_9 : Nat) : Int))) + x6_18) ∧ (IntKind.i64.wrap ((IntKind.i64.wrap (xp1_6 * ((n8_9 : Nat) : Int))) + x6_18) : Int) < ((n28_19 : Nat) : Int) ∧
        ∃ (e26 : TypeId) (c26 : List Value), Row h24 b45_25 e26 c26 ∧ o45_25 + ((IntKind.i64.wrap ((IntKind.i64.wrap (xp1_6 * ((n8_9 : Nat) : Int))) + x6_18)).toNat) < c26.length ∧
        ∀ h27 : Heap, h27 = putRow h24 b45_25 e26 (c26.set (o45_25 + ((IntKind.i64.wrap ((IntKind.i64.wrap (xp1_6 * ((n8_9 : Nat) : Int))) + x6_18)).toNat)) (.slice a44_24 n44_24 c44_24)) →
        I17 [.int .i64 (IntKind.i64.wrap (x6_18 + 1))] h27 ∧ μ17 [.int .i64 (IntKind.i64.wrap (x6_18 + 1))] h27 < μ17 [.int .i64 x6_18] h17) ∧
      (((x6_18 : Int) != xp1_6) = false →
        I17 [.int .i64 (IntKind.i64.wrap (x6_18 + 1))] h17 ∧ μ17 [.int .i64 (IntKind.i64.wrap (x6_18 + 1))] h17 < μ17 [.int .i64 x6_18] h17))) ∧
    ((decide ((x6_18 : Int) < ((n8_9 : Nat) : Int))) = false →
      ∃ (a46_0_28 : Option Addr) (n46_0_28 c46_0_28 : Nat), cellAt h17 h.size 0 = some (.slice a46_0_28 n46_0_28 c46_0_28) ∧
      ∃ (a46_1_29 : Option Addr) (n46_1_29 c46_1_29 : Nat), cellAt h17 h.size 1 = some (.slice a46_1_29 n46_1_29 c46_1_29) ∧
      ∃ (a46_2_30 : Option Addr) (n46_2_30 c46_2_30 : Nat), cellAt h17 h.size 2 = some (.slice a46_2_30 n46_2_30 c46_2_30) ∧
      ∃ (a46_3_31 : Option Addr) (n46_3_31 c46_3_31 : Nat), cellAt h17 h.size 3 = some (.slice a46_3_31 n46_3_31 c46_3_31) ∧
      ∃ (a46_4_32 : Option Addr) (n46_4_32 c46_4_32 : Nat), cellAt h17 h.size 4 = some (.slice a46_4_32 n46_4_32 c46_4_32) ∧
      ∃ (e33 : TypeId) (c33 : List Value), Row h17 h7.size e33 c33 ∧ 0 + 5 ≤ c33.length ∧
      ∀ h34 : Heap, h34 = putRow h17 h7.size e33 (splice c33 0 [.slice a46_0_28 n46_0_28 c46_0_28, .slice a46_1_29 n46_1_29 c46_1_29, .slice a46_2_30 n46_2_30 c46_2_30, .slice a46_3_31 n46_3_31 c46_3_31, .slice a46_4_32 n46_4_32 c46_4_32]) →
      ∃ (ar0_0_35 : Option Addr) (nr0_0_35 cr0_0_35 : Nat), cellAt h34 h7.size 0 = some (.slice ar0_0_35 nr0_0_35 cr0_0_35) ∧
      ∃ (ar0_1_36 : Option Addr) (nr0_1_36 cr0_1_36 : Nat), cellAt h34 h7.size 1 = some (.slice ar0_1_36 nr0_1_36 cr0_1_36) ∧
      ∃ (ar0_2_37 : Option Addr) (nr0_2_37 cr0_2_37 : Nat), cellAt h34 h7.size 2 = some (.slice ar0_2_37 nr0_2_37 cr0_2_37) ∧
      ∃ (ar0_3_38 : Option Addr) (nr0_3_38 cr0_3_38 : Nat), cellAt h34 h7.size 3 = some (.slice ar0_3_38 nr0_3_38 cr0_3_38) ∧
      ∃ (ar0_4_39 : Option Addr) (nr0_4_39 cr0_4_39 : Nat), cellAt h34 h7.size 4 = some (.slice ar0_4_39 nr0_4_39 cr0_4_39) ∧
      R (.agg ⟨[.slice ar0_0_35 nr0_0_35 cr0_0_35, .slice ar0_1_36 nr0_1_36 cr0_1_36, .slice ar0_2_37 nr0_2_37 cr0_2_37, .slice ar0_3_38 nr0_3_38 cr0_3_38, .slice ar0_4_39 nr0_4_39 cr0_4_39]⟩) h34))
def plan_spec_l12Picture : Plan := .seq none (.leaf) (.seq none (.leaf) (.seq none (.draw (.op 0 (.op 1 (.op 2 (.op 3 (.op 4 (.op 5 (.op 6 (.op 7 (.op 8 (.op 9 .done))))))))))) (.seq none (.seq none (.leaf) (.block (.loop [(6, .l (.int .i64))] (.seq none (.seq none (.leaf) (.cond (.leaf) (.leaf))) (.seq none (.block (.seq none (.leaf) (.cond (.draw (.op 0 (.op 1 (.op 2 (.op 3 (.op 4 (.op 5 (.op 6 (.op 7 (.op 8 (.op 9 (.op 10 (.op 11 (.op 12 (.op 13 (.op 14 (.op 15 (.op 16 (.op 17 (.op 18 (.op 19 .done))))))))))))))))))))) (.leaf)))) (.leaf)))))) (.seq none (.leaf) (.leaf)))))
theorem tie_spec_l12Picture : (fun (ap0_0_1 : Option Addr) (np0_0_1 cp0_0_1 : Nat) (ap0_1_2 : Option Addr) (np0_1_2 cp0_1_2 : Nat) (ap0_2_3 : Option Addr) (np0_2_3 cp0_2_3 : Nat) (ap0_3_4 : Option Addr) (np0_3_4 cp0_3_4 : Nat) (ap0_4_5 : Option Addr) (np0_4_5 cp0_4_5 : Nat) (xp1_6 : Int) (h : Heap) (R : Value → Heap → Prop) => denF X0 Try.f157 (bodyOf Try.f157) plan_spec_l12Picture [.agg [.sl ap0_0_1 np0_0_1 cp0_0_1, .sl ap0_1_2 np0_1_2 cp0_1_2, .sl ap0_2_3 np0_2_3 cp0_2_3, .sl ap0_3_4 np0_3_4 cp0_3_4, .sl ap0_4_5 np0_4_5 cp0_4_5], .l (.int .i64 xp1_6)] h R) = M_spec_l12Picture := by kernel_rfl
theorem calls_spec_l12Picture (ap0_0_1 : Option Addr) (np0_0_1 cp0_0_1 : Nat) (ap0_1_2 : Option Addr) (np0_1_2 cp0_1_2 : Nat) (ap0_2_3 : Option Addr) (np0_2_3 cp0_2_3 : Nat) (ap0_3_4 : Option Addr) (np0_3_4 cp0_3_4 : Nat) (ap0_4_5 : Option Addr) (np0_4_5 cp0_4_5 : Nat) (xp1_6 : Int) {h : Heap} {R : Value → Heap → Prop} (hm : M_spec_l12Picture ap0_0_1 np0_0_1 cp0_0_1 ap0_1_2 np0_1_2 cp0_1_2 ap0_2_3 np0_2_3 cp0_2_3 ap0_3_4 np0_3_4 cp0_3_4 ap0_4_5 np0_4_5 cp0_4_5 xp1_6 h R) : CallsH PP fn_spec_l12Picture [.agg ⟨[.slice ap0_0_1 np0_0_1 cp0_0_1, .slice ap0_1_2 np0_1_2 cp0_1_2, .slice ap0_2_3 np0_2_3 cp0_2_3, .slice ap0_3_4 np0_3_4 cp0_3_4, .slice ap0_4_5 np0_4_5 cp0_4_5]⟩, .int .i64 xp1_6] h R :=
  callsH_of X0ok Try.func157 (by kernel_rfl) plan_spec_l12Picture [.agg [.sl ap0_0_1 np0_0_1 cp0_0_1, .sl ap0_1_2 np0_1_2 cp0_1_2, .sl ap0_2_3 np0_2_3 cp0_2_3, .sl ap0_3_4 np0_3_4 cp0_3_4, .sl ap0_4_5 np0_4_5 cp0_4_5], .l (.int .i64 xp1_6)] (Eq.mpr (congrFun (congrFun (congrFun (congrFun (congrFun (congrFun (congrFun (congrFun (congrFun (congrFun (congrFun (congrFun (congrFun (congrFun (congrFun (congrFun (congrFun (congrFun tie_spec_l12Picture ap0_0_1) np0_0_1) cp0_0_1) ap0_1_2) np0_1_2) cp0_1_2) ap0_2_3) np0_2_3) cp0_2_3) ap0_3_4) np0_3_4) cp0_3_4) ap0_4_5) np0_4_5) cp0_4_5) xp1_6) h) R) hm)
/- 158: spec.WayAt -/
def M_spec_WayAt (xp0_1 : Int) (xp1_2 : Int) (xp2_3 : Int) (h : Heap) (R : Value → Heap → Prop) : Prop :=
  CallsH PP fn_spec_l1In [.int .i64 xp0_1, .int .i64 1, .int .i64 5] h fun (v4 : Value) (h4 : Heap) =>
  ∃ (t9_5 : Bool), v4 = .bool t9_5 ∧
  (((!t9_5) = false →
    CallsH PP fn_spec_l1In [.int .i64 xp1_2, .int .i64 0, .int .i64 (IntKind.i64.wrap (xp0_1 - 1))] h4 fun (v6 : Value) (h6 : Heap) =>
    ∃ (t15_7 : Bool), v6 = .bool t15_7 ∧
    (((!t15_7) = false →
      CallsH PP fn_spec_l1In [.int .i64 xp2_3, .int .i64 0, .int .i64 (IntKind.i64.wrap (xp0_1 - 1))] h6 fun (v8 : Value) (h8 : Heap) =>
      ∃ (t22_9 : Bool), v8 = .bool t22_9 ∧
      (((!t22_9) = false →
        ((((xp1_2 : Int) == xp2_3) = true →
          R (.tuple ⟨[.int .i64 0, .bool false]⟩) h8) ∧
        (((xp1_2 : Int) == xp2_3) = false →
          R (.tuple ⟨[.int .i64 (IntKind.i64.wrap ((IntKind.i64.wrap (xp1_2 * xp0_1)) + xp2_3)), .bool true]⟩) h8))) ∧
      ((!t22_9) = true →
        R (.tuple ⟨[.int .i64 0, .bool false]⟩) h8))) ∧
    ((!t15_7) = true →
      R (.tuple ⟨[.int .i64 0, .bool false]⟩) h6))) ∧
  ((!t9_5) = true →
    R (.tuple ⟨[.int .i64 0, .bool false]⟩) h4))
def plan_spec_WayAt : Plan := .seq none (.leaf) (.seq none (.seq none (.leaf) (.cond (.seq none (.leaf) (.leaf)) (.leaf))) (.seq none (.leaf) (.leaf)))
theorem tie_spec_WayAt : (fun (xp0_1 : Int) (xp1_2 : Int) (xp2_3 : Int) (h : Heap) (R : Value → Heap → Prop) => denF X0 Try.f158 (bodyOf Try.f158) plan_spec_WayAt [.l (.int .i64 xp0_1), .l (.int .i64 xp1_2), .l (.int .i64 xp2_3)] h R) = M_spec_WayAt := by kernel_rfl
theorem calls_spec_WayAt (xp0_1 : Int) (xp1_2 : Int) (xp2_3 : Int) {h : Heap} {R : Value → Heap → Prop} (hm : M_spec_WayAt xp0_1 xp1_2 xp2_3 h R) : CallsH PP fn_spec_WayAt [.int .i64 xp0_1, .int .i64 xp1_2, .int .i64 xp2_3] h R :=
  callsH_of X0ok Try.func158 (by kernel_rfl) plan_spec_WayAt [.l (.int .i64 xp0_1), .l (.int .i64 xp1_2), .l (.int .i64 xp2_3)] (Eq.mpr (congrFun (congrFun (congrFun (congrFun (congrFun tie_spec_WayAt xp0_1) xp1_2) xp2_3) h) R) hm)
/- 159: spec.l12Take -/
def M_spec_l12Take (ap0_0_1 : Option Addr) (np0_0_1 cp0_0_1 : Nat) (ap0_1_2 : Option Addr) (np0_1_2 cp0_1_2 : Nat) (ap0_2_3 : Option Addr) (np0_2_3 cp0_2_3 : Nat) (ap0_3_4 : Option Addr) (np0_3_4 cp0_3_4 : Nat) (ap0_4_5 : Option Addr) (np0_4_5 cp0_4_5 : Nat) (xp1_6 : Int) (xp2_7 : Int) (h : Heap) (R : Value → Heap → Prop) : Prop :=
  ∀ h8 : Heap, h8 = newRowH h ty_impl_Bank [.slice ap0_0_1 np0_0_1 cp0_0_1, .slice ap0_1_2 np0_1_2 cp0_1_2, .slice ap0_2_3 np0_2_3 cp0_2_3, .slice ap0_3_4 np0_3_4 cp0_3_4, .slice ap0_4_5 np0_4_5 cp0_4_5] →
  ∀ h9 : Heap, h9 = newRowH h8 ty_impl_Bank [.slice none 0 0, .slice none 0 0, .slice none 0 0, .slice none 0 0, .slice none 0 0] →
  ∃ (a10_10 : Option Addr) (n10_10 c10_10 : Nat), cellAt h9 h.size 0 = some (.slice a10_10 n10_10 c10_10) ∧
  ∃ (a13_11 : Option Addr) (n13_11 c13_11 : Nat), cellAt h9 h.size 1 = some (.slice a13_11 n13_11 c13_11) ∧
  ∃ (b19_12 o19_12 : Nat), a13_11 = some ⟨b19_12, o19_12, none⟩ ∧ (0 : Int) ≤ IntKind.i64.wrap ((IntKind.i64.wrap (xp1_6 * ((n10_10 : Nat) : Int))) + xp2_7) ∧ (IntKind.i64.wrap ((IntKind.i64.wrap (xp1_6 * ((n10_10 : Nat) : Int))) + xp2_7) : Int) < ((n13_11 : Nat) : Int) ∧
  ∃ (a20_13 : Option Addr) (n20_13 c20_13 : Nat), cellAt h9 b19_12 (o19_12 + ((IntKind.i64.wrap ((IntKind.i64.wrap (xp1_6 * ((n10_10 : Nat) : Int))) + xp2_7)).toNat)) = some (.slice a20_13 n20_13 c20_13) ∧
  ∃ (b21_14 o21_14 : Nat), a20_13 = some ⟨b21_14, o21_14, none⟩ ∧ (0 : Int) ≤ 0 ∧ (0 : Int) < ((n20_13 : Nat) : Int) ∧
  ∃ (x22_15 : Int), cellAt h9 b21_14 o21_14 = some (.int .i64 x22_15) ∧
  ∃ (a24_16 : Option Addr) (n24_16 c24_16 : Nat), cellAt h9 h.size 1 = some (.slice a24_16 n24_16 c24_16) ∧
  ∃ (a32_17 : Option Addr) (n32_17 c32_17 : Nat), cellAt h9 h.size 1 = some (.slice a32_17 n32_17 c32_17) ∧
  ∃ (b38_18 o38_18 : Nat), a32_17 = some ⟨b38_18, o38_18, none⟩ ∧ (0 : Int) ≤ IntKind.i64.wrap ((IntKind.i64.wrap (xp1_6 * ((n10_10 : Nat) : Int))) + xp2_7) ∧ (IntKind.i64.wrap ((IntKind.i64.wrap (xp1_6 * ((n10_10 : Nat) : Int))) + xp2_7) : Int) < ((n32_17 : Nat) : Int) ∧
  ∃ (a39_19 : Option Addr) (n39_19 c39_19 : Nat), cellAt h9 b38_18 (o38_18 + ((IntKind.i64.wrap ((IntKind.i64.wrap (xp1_6 * ((n10_10 : Nat) : Int))) + xp2_7)).toNat)) = some (.slice a39_19 n39_19 c39_19) ∧
  (0 : Int) ≤ 1 ∧ (1 : Int) ≤ ((n39_19 : Nat) : Int) ∧ ((n39_19 : Nat) : Int) ≤ ((c39_19 : Nat) : Int) ∧
  ∀ h20 : Heap, h20 = newRowH h9 ty_int [] →
  cellAt h20 b38_18 (o38_18 + ((IntKind.i64.wrap ((IntKind.i64.wrap (xp1_6 * ((n10_10 : Nat) : Int))) + xp2_7)).toNat)) = some (.slice a39_19 n39_19 c39_19) ∧
  cellAt h20 h.size 1 = some (.slice a32_17 n32_17 c32_17) ∧
  cellAt h20 h.size 1 = some (.slice a24_16 n24_16 c24_16) ∧
  appendH h20 ty_int 1 [.int .i64 0] (some ⟨h9.size, 0, none⟩) 0 0 (subA a39_19 c39_19 1 1) (n39_19 - 1) fun (a41_21 : Option Addr) (n41_21 c41_21 : Nat) (h21 : Heap) =>
  cellAt h21 h.size 1 = some (.slice a24_16 n24_16 c24_16) ∧
  ∃ (b42_22 o42_22 : Nat), a24_16 = some ⟨b42_22, o42_22, none⟩ ∧ (0 : Int) ≤ IntKind.i64.wrap ((IntKind.i64.wrap (xp1_6 * ((n10_10 : Nat) : Int))) + xp2_7) ∧ (IntKind.i64.wrap ((IntKind.i64.wrap (xp1_6 * ((n10_10 : Nat) : Int))) + xp2_7) : Int) < ((n24_16 : Nat) : Int) ∧
  ∃ (e23 : TypeId) (c23 : List Value), Row h21 b42_22 e23 c23 ∧ o42_22 + ((IntKind.i64.wrap ((IntKind.i64.wrap (xp1_6 * ((n10_10 : Nat) : Int))) + xp2_7)).toNat) < c23.length ∧
  ∀ h24 : Heap, h24 = putRow h21 b42_22 e23 (c23.set (o42_22 + ((IntKind.i64.wrap ((IntKind.i64.wrap (xp1_6 * ((n10_10 : Nat) : Int))) + xp2_7)).toNat)) (.slice a41_21 n41_21 c41_21)) →
  (((decide ((x22_15 : Int) > 0)) = true →
    ∃ (a46_25 : Option Addr) (n46_25 c46_25 : Nat), cellAt h24 h.size 0 = some (.slice a46_25 n46_25 c46_25) ∧
    ∃ (b48_26 o48_26 : Nat), a46_25 = some ⟨b48_26, o48_26, none⟩ ∧ (0 : Int) ≤ xp2_7 ∧ (xp2_7 : Int) < ((n46_25 : Nat) : Int) ∧
    ∃ (x49_27 : Int), cellAt h24 b48_26 (o48_26 + xp2_7.toNat) = some (.int .i64 x49_27) ∧
    ∃ (b52_28 o52_28 : Nat), a46_25 = some ⟨b52_28, o52_28, none⟩ ∧ (0 : Int) ≤ xp2_7 ∧ (xp2_7 : Int) < ((n46_25 : Nat) : Int) ∧
    ∃ (e29 : TypeId) (c29 : List Value), Row h24 b52_28 e29 c29 ∧ o52_28 + xp2_7.toNat < c29.length ∧
    ∀ h30 : Heap, h30 = putRow h24 b52_28 e29 (c29.set (o52_28 + xp2_7.toNat) (.int .i64 (IntKind.i64.wrap (x49_27 + x22_15)))) →
    ∀ (K31 : List Value → Heap → Prop), (∀ h31 : Heap, ∀ (t69_32 : Bool), (
      ((t69_32 = true →
        ∃ (a71_33 : Option Addr) (n71_33 c71_33 : Nat), cellAt h31 h.size 4 = some (.slice a71_33 n71_33 c71_33) ∧
        ∃ (b73_34 o73_34 : Nat), a71_33 = some ⟨b73_34, o73_34, none⟩ ∧ (0 : Int) ≤ xp1_6 ∧ (xp1_6 : Int) < ((n71_33 : Nat) : Int) ∧
        ∃ (a74_35 : Option Addr) (n74_35 c74_35 : Nat), cellAt h31 b73_34 (o73_34 + xp1_6.toNat) = some (.slice a74_35 n74_35 c74_35) ∧
        ∃ (b76_36 o76_36 : Nat), a74_35 = some ⟨b76_36, o76_36, none⟩ ∧ (0 : Int) ≤ xp2_7 ∧ (xp2_7 : Int) < ((n74_35 : Nat) : Int) ∧
        ∃ (x77_37 : Int), cellAt h31 b76_36 (o76_36 + xp2_7.toNat) = some (.int .i64 x77_37) ∧
        ∃ (b80_38 o80_38 : Nat), a74_35 = some ⟨b80_38, o80_38, none⟩ ∧ (0 : Int) ≤ xp2_7 ∧ (xp2_7 : Int) < ((n74_35 : Nat) : Int) ∧
        ∃ (e39 : TypeId) (c39 : List Value), Row h31 b80_38 e39 c39 ∧ o80_38 + xp2_7.toNat < c39.length ∧
        ∀ h40 : Heap, h40 = putRow h31 b80_38 e39 (c39.set (o80_38 + xp2_7.toNat) (.int .i64 (IntKind.i64.wrap (x77_37 + x22_15)))) →
        ∃ (a81_0_41 : Option Addr) (n81_0_41 c81_0_41 : Nat), cellAt h40 h.size 0 = some (.slice a81_0_41 n81_0_41 c81_0_41) ∧
        ∃ (a81_1_42 : Option Addr) (n81_1_42 c81_1_42 : Nat), cellAt h40 h.size 1 = some (.slice a81_1_42 n81_1_42 c81_1_42) ∧
        ∃ (a81_2_43 : Option Addr) (n81_2_43 c81_2_43 : Nat), cellAt h40 h.size 2 = some (.slice a81_2_43 n81_2_43 c81_2_43) ∧
        ∃ (a81_3_44 : Option Addr) (n81_3_44 c81_3_44 : Nat), cellAt h40 h.size 3 = some (.slice a81_3_44 n81_3_44 c81_3_44) ∧
        ∃ (a81_4_45 : Option Addr) (n81_4_45 c81_4_45 : Nat), cellAt h40 h.size 4 = some (.slice a81_4_45 n81_4_45 c81_4_45) ∧
        ∃ (e46 : TypeId) (c46 : List Value), Row h40 h8.size e46 c46 ∧ 0 + 5 ≤ c46.length ∧
        ∀ h47 : Heap, h47 = putRow h40 h8.size e46 (splice c46 0 [.slice a81_0_41 n81_0_41 c81_0_41, .slice a81_1_42 n81_1_42 c81_1_42, .slice a81_2_43 n81_2_43 c81_2_43, .slice a81_3_44 n81_3_44 c81_3_44, .slice a81_4_45 n81_4_45 c81_4_45]) →
        ∃ (ar0_0_48 : Option Addr) (nr0_0_48 cr0_0_48 : Nat), cellAt h47 h8.size 0 = some (.slice ar0_0_48 nr0_0_48 cr0_0_48) ∧
        ∃ (ar0_1_49 : Option Addr) (nr0_1_49 cr0_1_49 : Nat), cellAt h47 h8.size 1 = some (.slice ar0_1_49 nr0_1_49 cr0_1_49) ∧
        ∃ (ar0_2_50 : Option Addr) (nr0_2_50 cr0_2_50 : Nat), cellAt h47 h8.size 2 = some (.slice ar0_2_50 nr0_2_50 cr0_2_50) ∧
        ∃ (ar0_3_51 : Option Addr) (nr0_3_51 cr0_3_51 : Nat), cellAt h47 h8.size 3 = some (.slice ar0_3_51 nr0_3_51 cr0_3_51) ∧
        ∃ (ar0_4_52 : Option Addr) (nr0_4_52 cr0_4_52 : Nat), cellAt h47 h8.size 4 = some (.slice ar0_4_52 nr0_4_52 cr0_4_52) ∧
        R (.agg ⟨[.slice ar0_0_48 nr0_0_48 cr0_0_48, .slice ar0_1_49 nr0_1_49 cr0_1_49, .slice ar0_2_50 nr0_2_50 cr0_2_50, .slice ar0_3_51 nr0_3_51 cr0_3_51, .slice ar0_4_52 nr0_4_52 cr0_4_52]⟩) h47) ∧
      (t69_32 = false →
        ∃ (a81_0_53 : Option Addr) (n81_0_53 c81_0_53 : Nat), cellAt h31 h.size 0 = some (.slice a81_0_53 n81_0_53 c81_0_53) ∧
        ∃ (a81_1_54 : Option Addr) (n81_1_54 c81_1_54 : Nat), cellAt h31 h.size 1 = some (.slice a81_1_54 n81_1_54 c81_1_54) ∧
        ∃ (a81_2_55 : Option Addr) (n81_2_55 c81_2_55 : Nat), cellAt h31 h.size 2 = some (.slice a81_2_55 n81_2_55 c81_2_55) ∧
        ∃ (a81_3_56 : Option Addr) (n81_3_56 c81_3_56 : Nat), cellAt h31 h.size 3 = some (.slice a81_3_56 n81_3_56 c81_3_56) ∧
        ∃ (a81_4_57 : Option Addr) (n81_4_57 c81_4_57 : Nat), cellAt h31 h.size 4 = some (.slice a81_4_57 n81_4_57 c81_4_57) ∧
        ∃ (e58 : TypeId) (c58 : List Value), Row h31 h8.size e58 c58 ∧ 0 + 5 ≤ c58.length ∧
        ∀ h59 : Heap, h59 = putRow h31 h8.size e58 (splice c58 0 [.slice a81_0_53 n81_0_53 c81_0_53, .slice a81_1_54 n81_1_54 c81_1_54, .slice a81_2_55 n81_2_55 c81_2_55, .slice a81_3_56 n81_3_56 c81_3_56, .slice a81_4_57 n81_4_57 c81_4_57]) →
        ∃ (ar0_0_60 : Option Addr) (nr0_0_60 cr0_0_60 : Nat), cellAt h59 h8.size 0 = some (.slice ar0_0_60 nr0_0_60 cr0_0_60) ∧
        ∃ (ar0_1_61 : Option Addr) (nr0_1_61 cr0_1_61 : Nat), cellAt h59 h8.size 1 = some (.slice ar0_1_61 nr0_1_61 cr0_1_61) ∧
        ∃ (ar0_2_62 : Option Addr) (nr0_2_62 cr0_2_62 : Nat), cellAt h59 h8.size 2 = some (.slice ar0_2_62 nr0_2_62 cr0_2_62) ∧
        ∃ (ar0_3_63 : Option Addr) (nr0_3_63 cr0_3_63 : Nat), cellAt h59 h8.size 3 = some (.slice ar0_3_63 nr0_3_63 cr0_3_63) ∧
        ∃ (ar0_4_64 : Option Addr) (nr0_4_64 cr0_4_64 : Nat), cellAt h59 h8.size 4 = some (.slice ar0_4_64 nr0_4_64 cr0_4_64) ∧
        R (.agg ⟨[.slice ar0_0_60 nr0_0_60 cr0_0_60, .slice ar0_1_61 nr0_1_61 cr0_1_61, .slice ar0_2_62 nr0_2_62 cr0_2_62, .slice ar0_3_63 nr0_3_63 cr0_3_63, .slice ar0_4_64 nr0_4_64 cr0_4_64]⟩) h59))) → K31 [.bool t69_32] h31) →
    ∃ (a54_65 : Option Addr) (n54_65 c54_65 : Nat), cellAt h30 h.size 2 = some (.slice a54_65 n54_65 c54_65) ∧
    ∃ (b56_66 o56_66 : Nat), a54_65 = some ⟨b56_66, o56_66, none⟩ ∧ (0 : Int) ≤ xp2_7 ∧ (xp2_7 : Int) < ((n54_65 : Nat) : Int) ∧
    ∃ (x57_67 : Int), cellAt h30 b56_66 (o56_66 + xp2_7.toNat) = some (.int .i64 x57_67) ∧
    (((decide ((x57_67 : Int) ≥ 0)) = true →
      ∃ (a61_68 : Option Addr) (n61_68 c61_68 : Nat), cellAt h30 h.size 3 = some (.slice a61_68 n61_68 c61_68) ∧
      ∃ (b63_69 o63_69 : Nat), a61_68 = some ⟨b63_69, o63_69, none⟩ ∧ (0 : Int) ≤ xp2_7 ∧ (xp2_7 : Int) < ((n61_68 : Nat) : Int) ∧
      ∃ (a64_70 : Option Addr) (n64_70 c64_70 : Nat), cellAt h30 b63_69 (o63_69 + xp2_7.toNat) = some (.slice a64_70 n64_70 c64_70) ∧
      ∃ (b66_71 o66_71 : Nat), a64_70 = some ⟨b66_71, o66_71, none⟩ ∧ (0 : Int) ≤ xp1_6 ∧ (xp1_6 : Int) < ((n64_70 : Nat) : Int) ∧
      ∃ (t67_72 : Bool), cellAt h30 b66_71 (o66_71 + xp1_6.toNat) = some (.bool t67_72) ∧
      K31 [.bool (!t67_72)] h30) ∧
    ((decide ((x57_67 : Int) ≥ 0)) = false →
      K31 [.bool false] h30))) ∧
  ((decide ((x22_15 : Int) > 0)) = false →
    ∀ (K73 : List Value → Heap → Prop), (∀ h73 : Heap, (
      ∃ (a92_74 : Option Addr) (n92_74 c92_74 : Nat), cellAt h73 h.size 3 = some (.slice a92_74 n92_74 c92_74) ∧
      ∃ (b94_75 o94_75 : Nat), a92_74 = some ⟨b94_75, o94_75, none⟩ ∧ (0 : Int) ≤ xp2_7 ∧ (xp2_7 : Int) < ((n92_74 : Nat) : Int) ∧
      ∃ (a95_76 : Option Addr) (n95_76 c95_76 : Nat), cellAt h73 b94_75 (o94_75 + xp2_7.toNat) = some (.slice a95_76 n95_76 c95_76) ∧
      ∃ (b97_77 o97_77 : Nat), a95_76 = some ⟨b97_77, o97_77, none⟩ ∧ (0 : Int) ≤ xp1_6 ∧ (xp1_6 : Int) < ((n95_76 : Nat) : Int) ∧
      ∃ (e78 : TypeId) (c78 : List Value), Row h73 b97_77 e78 c78 ∧ o97_77 + xp1_6.toNat < c78.length ∧
      ∀ h79 : Heap, h79 = putRow h73 b97_77 e78 (c78.set (o97_77 + xp1_6.toNat) (.bool true)) →
      ∃ (a98_0_80 : Option Addr) (n98_0_80 c98_0_80 : Nat), cellAt h79 h.size 0 = some (.slice a98_0_80 n98_0_80 c98_0_80) ∧
      ∃ (a98_1_81 : Option Addr) (n98_1_81 c98_1_81 : Nat), cellAt h79 h.size 1 = some (.slice a98_1_81 n98_1_81 c98_1_81) ∧
      ∃ (a98_2_82 : Option Addr) (n98_2_82 c98_2_82 : Nat), cellAt h79 h.size 2 = some (.slice a98_2_82 n98_2_82 c98_2_82) ∧
      ∃ (a98_3_83 : Option Addr) (n98_3_83 c98_3_83 : Nat), cellAt h79 h.size 3 = some (.slice a98_3_83 n98_3_83 c98_3_83) ∧
      ∃ (a98_4_84 : Option Addr) (n98_4_84 c98_4_84 : Nat), cellAt h79 h.size 4 = some (.slice a98_4_84 n98_4_84 c98_4_84) ∧
      ∃ (e85 : TypeId) (c85 : List Value), Row h79 h8.size e85 c85 ∧ 0 + 5 ≤ c85.length ∧
      ∀ h86 : Heap, h86 = putRow h79 h8.size e85 (splice c85 0 [.slice a98_0_80 n98_0_80 c98_0_80, .slice a98_1_81 n98_1_81 c98_1_81, .slice a98_2_82 n98_2_82 c98_2_82, .slice a98_3_83 n98_3_83 c98_3_83, .slice a98_4_84 n98_4_84 c98_4_84]) →
      ∃ (ar0_0_87 : Option Addr) (nr0_0_87 cr0_0_87 : Nat), cellAt h86 h8.size 0 = some (.slice ar0_0_87 nr0_0_87 cr0_0_87) ∧
      ∃ (ar0_1_88 : Option Addr) (nr0_1_88 cr0_1_88 : Nat), cellAt h86 h8.size 1 = some (.slice ar0_1_88 nr0_1_88 cr0_1_88) ∧
      ∃ (ar0_2_89 : Option Addr) (nr0_2_89 cr0_2_89 : Nat), cellAt h86 h8.size 2 = some (.slice ar0_2_89 nr0_2_89 cr0_2_89) ∧
      ∃ (ar0_3_90 : Option Addr) (nr0_3_90 cr0_3_90 : Nat), cellAt h86 h8.size 3 = some (.slice ar0_3_90 nr0_3_90 cr0_3_90) ∧
      ∃ (ar0_4_91 : Option Addr) (nr0_4_91 cr0_4_91 : Nat), cellAt h86 h8.size 4 = some (.slice ar0_4_91 nr0_4_91 cr0_4_91) ∧
      R (.agg ⟨[.slice ar0_0_87 nr0_0_87 cr0_0_87, .slice ar0_1_88 nr0_1_88 cr0_1_88, .slice ar0_2_89 nr0_2_89 cr0_2_89, .slice ar0_3_90 nr0_3_90 cr0_3_90, .slice ar0_4_91 nr0_4_91 cr0_4_91]⟩) h86) → K73 [] h73) →
    ∃ (a83_92 : Option Addr) (n83_92 c83_92 : Nat), cellAt h24 h.size 2 = some (.slice a83_92 n83_92 c83_92) ∧
    ∃ (b85_93 o85_93 : Nat), a83_92 = some ⟨b85_93, o85_93, none⟩ ∧ (0 : Int) ≤ xp2_7 ∧ (xp2_7 : Int) < ((n83_92 : Nat) : Int) ∧
    ∃ (x86_94 : Int), cellAt h24 b85_93 (o85_93 + xp2_7.toNat) = some (.int .i64 x86_94) ∧
    (((decide ((x86_94 : Int) < 0)) = true →
      ∃ (a88_0_95 : Option Addr) (n88_0_95 c88_0_95 : Nat), cellAt h24 h.size 0 = some (.slice a88_0_95 n88_0_95 c88_0_95) ∧
      ∃ (a88_1_96 : Option Addr) (n88_1_96 c88_1_96 : Nat), cellAt h24 h.size 1 = some (.slice a88_1_96 n88_1_96 c88_1_96) ∧
      ∃ (a88_2_97 : Option Addr) (n88_2_97 c88_2_97 : Nat), cellAt h24 h.size 2 = some (.slice a88_2_97 n88_2_97 c88_2_97) ∧
      ∃ (a88_3_98 : Option Addr) (n88_3_98 c88_3_98 : Nat), cellAt h24 h.size 3 = some (.slice a88_3_98 n88_3_98 c88_3_98) ∧
      ∃ (a88_4_99 : Option Addr) (n88_4_99 c88_4_99 : Nat), cellAt h24 h.size 4 = some (.slice a88_4_99 n88_4_99 c88_4_99) ∧
      CallsH PP fn_spec_l12Picture [.agg ⟨[.slice a88_0_95 n88_0_95 c88_0_95, .slice a88_1_96 n88_1_96 c88_1_96, .slice a88_2_97 n88_2_97 c88_2_97, .slice a88_3_98 n88_3_98 c88_3_98, .slice a88_4_99 n88_4_99 c88_4_99]⟩, .int .i64 xp2_7] h24 fun (v100 : Value) (h100 : Heap) =>
      ∃ (a90_0_101 : Option Addr) (n90_0_101 c90_0_101 : Nat) (a90_1_102 : Option Addr) (n90_1_102 c90_1_102 : Nat) (a90_2_103 : Option Addr) (n90_2_103 c90_2_103 : Nat) (a90_3_104 : Option Addr) (n90_3_104 c90_3_104 : Nat) (a90_4_105 : Option Addr) (n90_4_105 c90_4_105 : Nat), v100 = .agg ⟨[.slice a90_0_101 n90_0_101 c90_0_101, .slice a90_1_102 n90_1_102 c90_1_102, .slice a90_2_103 n90_2_103 c90_2_103, .slice a90_3_104 n90_3_104 c90_3_104, .slice a90_4_105 n90_4_105 c90_4_105]⟩ ∧
      ∃ (e106 : TypeId) (c106 : List Value), Row h100 h.size e106 c106 ∧ 0 + 5 ≤ c106.length ∧
      ∀ h107 : Heap, h107 = putRow h100 h.size e106 (splice c106 0 [.slice a90_0_101 n90_0_101 c90_0_101, .slice a90_1_102 n90_1_102 c90_1_102, .slice a90_2_103 n90_2_103 c90_2_103, .slice a90_3_104 n90_3_104 c90_3_104, .slice a90_4_105 n90_4_105 c90_4_105]) →
      K73 [] h107) ∧
    ((decide ((x86_94 : Int) < 0)) = false →
      K73 [] h24))))
def plan_spec_l12Take : Plan := .seq none (.leaf) (.seq none (.leaf) (.seq none (.leaf) (.seq none (.draw (.op 0 (.op 1 (.op 2 (.op 3 (.op 4 (.op 5 (.op 6 (.op 8 (.op 9 (.op 10 (.op 11 (.op 12 (.op 13 (.op 14 (.op 15 (.op 16 (.op 17 (.op 7 (.op 18 (.op 19 (.op 20 .done)))))))))))))))))))))) (.seq none (.seq none (.leaf) (.cond (.seq none (.leaf) (.seq none (.seq (some [(69, .l (.bool))]) (.leaf) (.cond (.leaf) (.leaf))) (.seq none (.leaf) (.leaf)))) (.leaf))) (.seq (some []) (.seq none (.leaf) (.cond (.leaf) (.leaf))) (.seq none (.leaf) (.seq none (.leaf) (.leaf))))))))
theorem tie_spec_l12Take : (fun (ap0_0_1 : Option Addr) (np0_0_1 cp0_0_1 : Nat) (ap0_1_2 : Option Addr) (np0_1_2 cp0_1_2 : Nat) (ap0_2_3 : Option Addr) (np0_2_3 cp0_2_3 : Nat) (ap0_3_4 : Option Addr) (np0_3_4 cp0_3_4 : Nat) (ap0_4_5 : Option Addr) (np0_4_5 cp0_4_5 : Nat) (xp1_6 : Int) (xp2_7 : Int) (h : Heap) (R : Value → Heap → Prop) => denF X0 Try.f159 (bodyOf Try.f159) plan_spec_l12Take [.agg [.sl ap0_0_1 np0_0_1 cp0_0_1, .sl ap0_1_2 np0_1_2 cp0_1_2, .sl ap0_2_3 np0_2_3 cp0_2_3, .sl ap0_3_4 np0_3_4 cp0_3_4, .sl ap0_4_5 np0_4_5 cp0_4_5], .l (.int .i64 xp1_6), .l (.int .i64 xp2_7)] h R) = M_spec_l12Take := by kernel_rfl
theorem calls_spec_l12Take (ap0_0_1 : Option Addr) (np0_0_1 cp0_0_1 : Nat) (ap0_1_2 : Option Addr) (np0_1_2 cp0_1_2 : Nat) (ap0_2_3 : Option Addr) (np0_2_3 cp0_2_3 : Nat) (ap0_3_4 : Option Addr) (np0_3_4 cp0_3_4 : Nat) (ap0_4_5 : Option Addr) (np0_4_5 cp0_4_5 : Nat) (xp1_6 : Int) (xp2_7 : Int) {h : Heap} {R : Value → Heap → Prop} (hm : M_spec_l12Take ap0_0_1 np0_0_1 cp0_0_1 ap0_1_2 np0_1_2 cp0_1_2 ap0_2_3 np0_2_3 cp0_2_3 ap0_3_4 np0_3_4 cp0_3_4 ap0_4_5 np0_4_5 cp0_4_5 xp1_6 xp2_7 h R) : CallsH PP fn_spec_l12Take [.agg ⟨[.slice ap0_0_1 np0_0_1 cp0_0_1, .slice ap0_1_2 np0_1_2 cp0_1_2, .slice ap0_2_3 np0_2_3 cp0_2_3, .slice ap0_3_4 np0_3_4 cp0_3_4, .slice ap0_4_5 np0_4_5 cp0_4_5]⟩, .int .i64 xp1_6, .int .i64 xp2_7] h R :=
  callsH_of X0ok Try.func159 (by kernel_rfl) plan_spec_l12Take [.agg [.sl ap0_0_1 np0_0_1 cp0_0_1, .sl ap0_1_2 np0_1_2 cp0_1_2, .sl ap0_2_3 np0_2_3 cp0_2_3, .sl ap0_3_4 np0_3_4 cp0_3_4, .sl ap0_4_5 np0_4_5 cp0_4_5], .l (.int .i64 xp1_6), .l (.int .i64 xp2_7)] (Eq.mpr (congrFun (congrFun (congrFun (congrFun (congrFun (congrFun (congrFun (congrFun (congrFun (congrFun (congrFun (congrFun (congrFun (congrFun (congrFun (congrFun (congrFun (congrFun (congrFun tie_spec_l12Take ap0_0_1) np0_0_1) cp0_0_1) ap0_1_2) np0_1_2) cp0_1_2) ap0_2_3) np0_2_3) cp0_2_3) ap0_3_4) np0_3_4) cp0_3_4) ap0_4_5) np0_4_5) cp0_4_5) xp1_6) xp2_7) h) R) hm)
/- 13: impl.PlayBank -/
def M_impl_PlayBank (ap0_1 : Option Addr) (np0_1 cp0_1 : Nat) (ap1_2 : Option Addr) (np1_2 cp1_2 : Nat) (h : Heap) (R : Value → Heap → Prop) : Prop :=
  ∀ h3 : Heap, h3 = newRowH h ty_impl_Bank [.slice none 0 0, .slice none 0 0, .slice none 0 0, .slice none 0 0, .slice none 0 0] →
  CallsH PP fn_impl_areCoins [.slice ap0_1 np0_1 cp0_1] h3 fun (v4 : Value) (h4 : Heap) =>
  ∃ (t12_5 : Bool), v4 = .bool t12_5 ∧
  (((!t12_5) = false →
    (((decide ((((np1_2 : Nat) : Int) : Int) > 120)) = true →
      ∃ (e6 : TypeId) (c6 : List Value), Row h4 h.size e6 c6 ∧ 0 + 5 ≤ c6.length ∧
      ∀ h7 : Heap, h7 = putRow h4 h.size e6 (splice c6 0 [.slice none 0 0, .slice none 0 0, .slice none 0 0, .slice none 0 0, .slice none 0 0]) →
      ∃ (ar0_0_8 : Option Addr) (nr0_0_8 cr0_0_8 : Nat), cellAt h7 h.size 0 = some (.slice ar0_0_8 nr0_0_8 cr0_0_8) ∧
      ∃ (ar0_1_9 : Option Addr) (nr0_1_9 cr0_1_9 : Nat), cellAt h7 h.size 1 = some (.slice ar0_1_9 nr0_1_9 cr0_1_9) ∧
      ∃ (ar0_2_10 : Option Addr) (nr0_2_10 cr0_2_10 : Nat), cellAt h7 h.size 2 = some (.slice ar0_2_10 nr0_2_10 cr0_2_10) ∧
      ∃ (ar0_3_11 : Option Addr) (nr0_3_11 cr0_3_11 : Nat), cellAt h7 h.size 3 = some (.slice ar0_3_11 nr0_3_11 cr0_3_11) ∧
      ∃ (ar0_4_12 : Option Addr) (nr0_4_12 cr0_4_12 : Nat), cellAt h7 h.size 4 = some (.slice ar0_4_12 nr0_4_12 cr0_4_12) ∧
      R (.tuple ⟨[.agg ⟨[.slice ar0_0_8 nr0_0_8 cr0_0_8, .slice ar0_1_9 nr0_1_9 cr0_1_9, .slice ar0_2_10 nr0_2_10 cr0_2_10, .slice ar0_3_11 nr0_3_11 cr0_3_11, .slice ar0_4_12 nr0_4_12 cr0_4_12]⟩, .slice none 0 0, .bool false]⟩) h7) ∧
    ((decide ((((np1_2 : Nat) : Int) : Int) > 120)) = false →
      CallsH PP fn_impl_newBank [.slice ap0_1 np0_1 cp0_1] h4 fun (v13 : Value) (h13 : Heap) =>
      ∃ (a21_0_14 : Option Addr) (n21_0_14 c21_0_14 : Nat) (a21_1_15 : Option Addr) (n21_1_15 c21_1_15 : Nat) (a21_2_16 : Option Addr) (n21_2_16 c21_2_16 : Nat) (a21_3_17 : Option Addr) (n21_3_17 c21_3_17 : Nat) (a21_4_18 : Option Addr) (n21_4_18 c21_4_18 : Nat), v13 = .agg ⟨[.slice a21_0_14 n21_0_14 c21_0_14, .slice a21_1_15 n21_1_15 c21_1_15, .slice a21_2_16 n21_2_16 c21_2_16, .slice a21_3_17 n21_3_17 c21_3_17, .slice a21_4_18 n21_4_18 c21_4_18]⟩ ∧
      ∀ h19 : Heap, h19 = newRowH h13 ty_impl_Bank [.slice none 0 0, .slice none 0 0, .slice none 0 0, .slice none 0 0, .slice none 0 0] →
      ∃ (e20 : TypeId) (c20 : List Value), Row h19 h13.size e20 c20 ∧ 0 + 5 ≤ c20.length ∧
      ∀ h21 : Heap, h21 = putRow h19 h13.size e20 (splice c20 0 [.slice a21_0_14 n21_0_14 c21_0_14, .slice a21_1_15 n21_1_15 c21_1_15, .slice a21_2_16 n21_2_16 c21_2_16, .slice a21_3_17 n21_3_17 c21_3_17, .slice a21_4_18 n21_4_18 c21_4_18]) →
      ∃ (I22 : List Value → Heap → Prop) (μ22 : List Value → Heap → Nat), I22 [.slice none 0 0, .int .i64 0] h21 ∧
      ∀ h22 : Heap, ∀ (a8_23 : Option Addr) (n8_23 c8_23 : Nat), ∀ (x24_24 : Int), I22 [.slice a8_23 n8_23 c8_23, .int .i64 x24_24] h22 →
        (((decide ((x24_24 : Int) < ((np1_2 : Nat) : Int))) = true →
          ∃ (b26_25 o26_25 : Nat), ap1_2 = some ⟨b26_25, o26_25, none⟩ ∧ (0 : Int) ≤ x24_24 ∧ (x24_24 : Int) < ((np1_2 : Nat) : Int) ∧
          ∃ (x27_0_26 : Int), cellAt h22 b26_25 (o26_25 + (x24_24.toNat * 4)) = some (.int .i64 x27_0_26) ∧
          ∃ (x27_1_27 : Int), cellAt h22 b26_25 (o26_25 + (x24_24.toNat * 4) + 1) = some (.int .i64 x27_1_27) ∧
          ∃ (x27_2_28 : Int), cellAt h22 b26_25 (o26_25 + (x24_24.toNat * 4) + 2) = some (.int .i64 x27_2_28) ∧
          ∃ (x27_3_29 : Int), cellAt h22 b26_25 (o26_25 + (x24_24.toNat * 4) + 3) = some (.int .i64 x27_3_29) ∧
          ∀ h30 : Heap, h30 = newRowH h22 ty_impl_SnapStep [.int .i64 0, .int .i64 0, .int .i64 0, .int .i64 0] →
          ∃ (e31 : TypeId) (c31 : List Value), Row h30 h22.size e31 c31 ∧ 0 + 4 ≤ c31.length ∧
          ∀ h32 : Heap, h32 = putRow h30 h22.size e31 (splice c31 0 [.int .i64 x27_0_26, .int .i64 x27_1_27, .int .i64 x27_2_28, .int .i64 x27_3_29]) →
          ∃ (x29_0_33 : Int), cellAt h32 h22.size 0 = some (.int .i64 x29_0_33) ∧
          ∃ (x29_1_34 : Int), cellAt h32 h22.size 1 = some (.int .i64 x29_1_34) ∧
          ∃ (x29_2_35 : Int), cellAt h32 h22.size 2 = some (.int .i64 x29_2_35) ∧
          ∃ (x29_3_36 : Int), cellAt h32 h22.size 3 = some (.int .i64 x29_3_36) ∧
          CallsH PP fn_impl_Bank_step [.pointer (some ⟨h13.size, 0, none⟩), .agg ⟨[.int .i64 x29_0_33, .int .i64 x29_1_34, .int .i64 x29_2_35, .int .i64 x29_3_36]⟩] h32 fun (v37 : Value) (h37 : Heap) =>
          ∃ (t30_38 : Bool), v37 = .bool t30_38 ∧
          ∀ h39 : Heap, h39 = newRowH h37 ty_bool [.bool t30_38] →
          appendH h39 ty_bool 1 [.bool false] a8_23 n8_23 c8_23 (some ⟨h37.size, 0, none⟩) 1 fun (a32_40 : Option Addr) (n32_40 c32_40 : Nat) (h40 : Heap) =>
          I22 [.slice a32_40 n32_40 c32_40, .int .i64 (IntKind.i64.wrap (x24_24 + 1))] h40 ∧ μ22 [.slice a32_40 n32_40 c32_40, .int .i64 (IntKind.i64.wrap (x24_24 + 1))] h40 < μ22 [.slice a8_23 n8_23 c8_23, .int .i64 x24_24] h22) ∧
        ((decide ((x24_24 : Int) < ((np1_2 : Nat) : Int))) = false →
          ∃ (a34_0_41 : Option Addr) (n34_0_41 c34_0_41 : Nat), cellAt h22 h13.size 0 = some (.slice a34_0_41 n34_0_41 c34_0_41) ∧
          ∃ (a34_1_42 : Option Addr) (n34_1_42 c34_1_42 : Nat), cellAt h22 h13.size 1 = some (.slice a34_1_42 n34_1_42 c34_1_42) ∧
          ∃ (a34_2_43 : Option Addr) (n34_2_43 c34_2_43 : Nat), cellAt h22 h13.size 2 = some (.slice a34_2_43 n34_2_43 c34_2_43) ∧
          ∃ (a34_3_44 : Option Addr) (n34_3_44 c34_3_44 : Nat), cellAt h22 h13.size 3 = some (.slice a34_3_44 n34_3_44 c34_3_44) ∧
          ∃ (a34_4_45 : Option Addr) (n34_4_45 c34_4_45 : Nat), cellAt h22 h13.size 4 = some (.slice a34_4_45 n34_4_45 c34_4_45) ∧
          ∃ (e46 : TypeId) (c46 : List Value), Row h22 h.size e46 c46 ∧ 0 + 5 ≤ c46.length ∧
          ∀ h47 : Heap, h47 = putRow h22 h.size e46 (splice c46 0 [.slice a34_0_41 n34_0_41 c34_0_41, .slice a34_1_42 n34_1_42 c34_1_42, .slice a34_2_43 n34_2_43 c34_2_43, .slice a34_3_44 n34_3_44 c34_3_44, .slice a34_4_45 n34_4_45 c34_4_45]) →
          ∃ (ar0_0_48 : Option Addr) (nr0_0_48 cr0_0_48 : Nat), cellAt h47 h.size 0 = some (.slice ar0_0_48 nr0_0_48 cr0_0_48) ∧
          ∃ (ar0_1_49 : Option Addr) (nr0_1_49 cr0_1_49 : Nat), cellAt h47 h.size 1 = some (.slice ar0_1_49 nr0_1_49 cr0_1_49) ∧
          ∃ (ar0_2_50 : Option Addr) (nr0_2_50 cr0_2_50 : Nat), cellAt h47 h.size 2 = some (.slice ar0_2_50 nr0_2_50 cr0_2_50) ∧
          ∃ (ar0_3_51 : Option Addr) (nr0_3_51 cr0_3_51 : Nat), cellAt h47 h.size 3 = some (.slice ar0_3_51 nr0_3_51 cr0_3_51) ∧
          ∃ (ar0_4_52 : Option Addr) (nr0_4_52 cr0_4_52 : Nat), cellAt h47 h.size 4 = some (.slice ar0_4_52 nr0_4_52 cr0_4_52) ∧
          R (.tuple ⟨[.agg ⟨[.slice ar0_0_48 nr0_0_48 cr0_0_48, .slice ar0_1_49 nr0_1_49 cr0_1_49, .slice ar0_2_50 nr0_2_50 cr0_2_50, .slice ar0_3_51 nr0_3_51 cr0_3_51, .slice ar0_4_52 nr0_4_52 cr0_4_52]⟩, .slice a8_23 n8_23 c8_23, .bool true]⟩) h47))))) ∧
  ((!t12_5) = true →
    ∃ (e53 : TypeId) (c53 : List Value), Row h4 h.size e53 c53 ∧ 0 + 5 ≤ c53.length ∧
    ∀ h54 : Heap, h54 = putRow h4 h.size e53 (splice c53 0 [.slice none 0 0, .slice none 0 0, .slice none 0 0, .slice none 0 0, .slice none 0 0]) →
    ∃ (ar0_0_55 : Option Addr) (nr0_0_55 cr0_0_55 : Nat), cellAt h54 h.size 0 = some (.slice ar0_0_55 nr0_0_55 cr0_0_55) ∧
    ∃ (ar0_1_56 : Option Addr) (nr0_1_56 cr0_1_56 : Nat), cellAt h54 h.size 1 = some (.slice ar0_1_56 nr0_1_56 cr0_1_56) ∧
    ∃ (ar0_2_57 : Option Addr) (nr0_2_57 cr0_2_57 : Nat), cellAt h54 h.size 2 = some (.slice ar0_2_57 nr0_2_57 cr0_2_57) ∧
    ∃ (ar0_3_58 : Option Addr) (nr0_3_58 cr0_3_58 : Nat), cellAt h54 h.size 3 = some (.slice ar0_3_58 nr0_3_58 cr0_3_58) ∧
    ∃ (ar0_4_59 : Option Addr) (nr0_4_59 cr0_4_59 : Nat), cellAt h54 h.size 4 = some (.slice ar0_4_59 nr0_4_59 cr0_4_59) ∧
    R (.tuple ⟨[.agg ⟨[.slice ar0_0_55 nr0_0_55 cr0_0_55, .slice ar0_1_56 nr0_1_56 cr0_1_56, .slice ar0_2_57 nr0_2_57 cr0_2_57, .slice ar0_3_58 nr0_3_58 cr0_3_58, .slice ar0_4_59 nr0_4_59 cr0_4_59]⟩, .slice none 0 0, .bool false]⟩) h54))
def plan_impl_PlayBank : Plan := .seq none (.leaf) (.seq none (.seq none (.leaf) (.cond (.seq none (.leaf) (.leaf)) (.leaf))) (.seq none (.leaf) (.seq none (.leaf) (.seq none (.seq none (.leaf) (.block (.loop [(8, .l (.slice)), (24, .l (.int .i64))] (.seq none (.leaf) (.seq none (.cond (.leaf) (.leaf)) (.seq none (.block (.seq none (.leaf) (.leaf))) (.leaf))))))) (.seq none (.leaf) (.leaf))))))
theorem tie_impl_PlayBank : (fun (ap0_1 : Option Addr) (np0_1 cp0_1 : Nat) (ap1_2 : Option Addr) (np1_2 cp1_2 : Nat) (h : Heap) (R : Value → Heap → Prop) => denF X0 Try.f13 (bodyOf Try.f13) plan_impl_PlayBank [.l (.sl ap0_1 np0_1 cp0_1), .l (.sl ap1_2 np1_2 cp1_2)] h R) = M_impl_PlayBank := by kernel_rfl
theorem calls_impl_PlayBank (ap0_1 : Option Addr) (np0_1 cp0_1 : Nat) (ap1_2 : Option Addr) (np1_2 cp1_2 : Nat) {h : Heap} {R : Value → Heap → Prop} (hm : M_impl_PlayBank ap0_1 np0_1 cp0_1 ap1_2 np1_2 cp1_2 h R) : CallsH PP fn_impl_PlayBank [.slice ap0_1 np0_1 cp0_1, .slice ap1_2 np1_2 cp1_2] h R :=
  callsH_of X0ok Try.func13 (by kernel_rfl) plan_impl_PlayBank [.l (.sl ap0_1 np0_1 cp0_1), .l (.sl ap1_2 np1_2 cp1_2)] (Eq.mpr (congrFun (congrFun (congrFun (congrFun (congrFun (congrFun (congrFun (congrFun tie_impl_PlayBank ap0_1) np0_1) cp0_1) ap1_2) np1_2) cp1_2) h) R) hm)
/- 85: impl.areCoins -/
def M_impl_areCoins (ap0_1 : Option Addr) (np0_1 cp0_1 : Nat) (h : Heap) (R : Value → Heap → Prop) : Prop :=
  CallsH PP fn_impl_within [.int .i64 ((np0_1 : Nat) : Int), .int .i64 1, .int .i64 5] h fun (v2 : Value) (h2 : Heap) =>
  ∃ (t5_3 : Bool), v2 = .bool t5_3 ∧
  ((t5_3 = true →
    CallsH PP fn_slices_ContainsFunc_int [.slice ap0_1 np0_1 cp0_1, .func (.func fn_impl_areCoins_1) #[] ⟨[]⟩] h2 fun (v4 : Value) (h4 : Heap) =>
    ∃ (t8_5 : Bool), v4 = .bool t8_5 ∧
    R (.bool (!t8_5)) h4) ∧
  (t5_3 = false →
    R (.bool false) h2))
def plan_impl_areCoins : Plan := .seq none (.leaf) (.seq none (.leaf) (.leaf))
theorem tie_impl_areCoins : (fun (ap0_1 : Option Addr) (np0_1 cp0_1 : Nat) (h : Heap) (R : Value → Heap → Prop) => denF X0 Try.f85 (bodyOf Try.f85) plan_impl_areCoins [.l (.sl ap0_1 np0_1 cp0_1)] h R) = M_impl_areCoins := by kernel_rfl
theorem calls_impl_areCoins (ap0_1 : Option Addr) (np0_1 cp0_1 : Nat) {h : Heap} {R : Value → Heap → Prop} (hm : M_impl_areCoins ap0_1 np0_1 cp0_1 h R) : CallsH PP fn_impl_areCoins [.slice ap0_1 np0_1 cp0_1] h R :=
  callsH_of X0ok Try.func85 (by kernel_rfl) plan_impl_areCoins [.l (.sl ap0_1 np0_1 cp0_1)] (Eq.mpr (congrFun (congrFun (congrFun (congrFun (congrFun tie_impl_areCoins ap0_1) np0_1) cp0_1) h) R) hm)
/- 86: impl.newBank -/
def M_impl_newBank (ap0_1 : Option Addr) (np0_1 cp0_1 : Nat) (h : Heap) (R : Value → Heap → Prop) : Prop :=
  ∀ h2 : Heap, h2 = newRowH h ty_impl_Bank [.slice none 0 0, .slice none 0 0, .slice none 0 0, .slice none 0 0, .slice none 0 0] →
  ∀ (K3 : List Value → Heap → Prop), (∀ h3 : Heap, ∀ (b4_4 o4_4 : Nat), (
    ∃ (I5 : List Value → Heap → Prop) (μ5 : List Value → Heap → Nat), I5 [.int .i64 0] h3 ∧
    ∀ h5 : Heap, ∀ (x18_6 : Int), I5 [.int .i64 x18_6] h5 →
      (((decide ((x18_6 : Int) < ((np0_1 : Nat) : Int))) = true →
        ∃ (a21_7 : Option Addr) (n21_7 c21_7 : Nat), cellAt h5 b4_4 (o4_4 + 3) = some (.slice a21_7 n21_7 c21_7) ∧
        ∃ (a27_8 : Option Addr) (n27_8 c27_8 : Nat), cellAt h5 b4_4 (o4_4 + 4) = some (.slice a27_8 n27_8 c27_8) ∧
        ((0 ≤ ((np0_1 : Nat) : Int) ∧ ((np0_1 : Nat) : Int) ≤ ((np0_1 : Nat) : Int) ∧ ((np0_1 : Nat) : Int) ≤ 1099511627776 ∧ ((1 : Nat) : Int) * ((np0_1 : Nat) : Int) ≤ 281474976710656 ∧
          ∀ h43 : Heap, h43 = newRowH h5 ty_bool (repl [.bool false] np0_1) →
          cellAt h43 b4_4 (o4_4 + 4) = some (.slice a27_8 n27_8 c27_8) ∧
          cellAt h43 b4_4 (o4_4 + 3) = some (.slice a21_7 n21_7 c21_7) ∧
          ((∀ h68 : Heap, h68 = newRowH h43 ty_S_bool [.slice (some ⟨h5.size, 0, none⟩) np0_1 np0_1] →
            cellAt h68 b4_4 (o4_4 + 4) = some (.slice a27_8 n27_8 c27_8) ∧
            cellAt h68 b4_4 (o4_4 + 3) = some (.slice a21_7 n21_7 c21_7) ∧
            ((appendH h68 ty_S_bool 1 [.slice none 0 0] a21_7 n21_7 c21_7 (some ⟨h43.size, 0, none⟩) 1 fun (a25_84 : Option Addr) (n25_84 c25_84 : Nat) (h84 : Heap) =>
              cellAt h84 b4_4 (o4_4 + 4) = some (.slice a27_8 n27_8 c27_8) ∧
              0 ≤ ((np0_1 : Nat) : Int) ∧ ((np0_1 : Nat) : Int) ≤ ((np0_1 : Nat) : Int) ∧ ((np0_1 : Nat) : Int) ≤ 1099511627776 ∧ ((8 : Nat) : Int) * ((np0_1 : Nat) : Int) ≤ 281474976710656 ∧
              ∀ h85 : Heap, h85 = newRowH h84 ty_int (repl [.int .i64 0] np0_1) →
              cellAt h85 b4_4 (o4_4 + 4) = some (.slice a27_8 n27_8 c27_8) ∧
              ∀ h86 : Heap, h86 = newRowH h85 ty_S_int [.slice (some ⟨h84.size, 0, none⟩) np0_1 np0_1] →
              cellAt h86 b4_4 (o4_4 + 4) = some (.slice a27_8 n27_8 c27_8) ∧
              appendH h86 ty_S_int 1 [.slice none 0 0] a27_8 n27_8 c27_8 (some ⟨h85.size, 0, none⟩) 1 fun (a31_87 : Option Addr) (n31_87 c31_87 : Nat) (h87 : Heap) =>
              ∃ (e88 : TypeId) (c88 : List Value), Row h87 b4_4 e88 c88 ∧ o4_4 + 3 < c88.length ∧
              ∀ h89 : Heap, h89 = putRow h87 b4_4 e88 (c88.set (o4_4 + 3) (.slice a25_84 n25_84 c25_84)) →
              ∃ (e90 : TypeId) (c90 : List Value), Row h89 b4_4 e90 c90 ∧ o4_4 + 4 < c90.length ∧
              ∀ h91 : Heap, h91 = putRow h89 b4_4 e90 (c90.set (o4_4 + 4) (.slice a31_87 n31_87 c31_87)) →
              I5 [.int .i64 (IntKind.i64.wrap (x18_6 + 1))] h91 ∧ μ5 [.int .i64 (IntKind.i64.wrap (x18_6 + 1))] h91 < μ5 [.int .i64 x18_6] h5) ∧
            (0 ≤ ((np0_1 : Nat) : Int) ∧ ((np0_1 : Nat) : Int) ≤ ((np0_1 : Nat) : Int) ∧ ((np0_1 : Nat) : Int) ≤ 1099511627776 ∧ ((8 : Nat) : Int) * ((np0_1 : Nat) : Int) ≤ 281474976710656 ∧
              ∀ h69 : Heap, h69 = newRowH h68 ty_int (repl [.int .i64 0] np0_1) →
              cellAt h69 b4_4 (o4_4 + 4) = some (.slice a27_8 n27_8 c27_8) ∧
              cellAt h69 b4_4 (o4_4 + 3) = some (.slice a21_7 n21_7 c21_7) ∧
              ((appendH h69 ty_S_bool 1 [.slice none 0 0] a21_7 n21_7 c21_7 (some ⟨h43.size, 0, none⟩) 1 fun (a25_77 : Option Addr) (n25_77 c25_77 : Nat) (h77 : Heap) =>
                cellAt h77 b4_4 (o4_4 + 4) = some (.slice a27_8 n27_8 c27_8) ∧
                ∀ h78 : Heap, h78 = newRowH h77 ty_S_int [.slice (some ⟨h68.size, 0, none⟩) np0_1 np0_1] →
                cellAt h78 b4_4 (o4_4 + 4) = some (.slice a27_8 n27_8 c27_8) ∧
                appendH h78 ty_S_int 1 [.slice none 0 0] a27_8 n27_8 c27_8 (some ⟨h77.size, 0, none⟩) 1 fun (a31_79 : Option Addr) (n31_79 c31_79 : Nat) (h79 : Heap) =>
                ∃ (e80 : TypeId) (c80 : List Value), Row h79 b4_4 e80 c80 ∧ o4_4 + 3 < c80.length ∧
                ∀ h81 : Heap, h81 = putRow h79 b4_4 e80 (c80.set (o4_4 + 3) (.slice a25_77 n25_77 c25_77)) →
                ∃ (e82 : TypeId) (c82 : List Value), Row h81 b4_4 e82 c82 ∧ o4_4 + 4 < c82.length ∧
                ∀ h83 : Heap, h83 = putRow h81 b4_4 e82 (c82.set (o4_4 + 4) (.slice a31_79 n31_79 c31_79)) →
                I5 [.int .i64 (IntKind.i64.wrap (x18_6 + 1))] h83 ∧ μ5 [.int .i64 (IntKind.i64.wrap (x18_6 + 1))] h83 < μ5 [.int .i64 x18_6] h5) ∧
              (∀ h70 : Heap, h70 = newRowH h69 ty_S_int [.slice (some ⟨h68.size, 0, none⟩) np0_1 np0_1] →
                cellAt h70 b4_4 (o4_4 + 4) = some (.slice a27_8 n27_8 c27_8) ∧
                cellAt h70 b4_4 (o4_4 + 3) = some (.slice a21_7 n21_7 c21_7) ∧
                appendH h70 ty_S_bool 1 [.slice none 0 0] a21_7 n21_7 c21_7 (some ⟨h43.size, 0, none⟩) 1 fun (a25_71 : Option Addr) (n25_71 c25_71 : Nat) (h71 : Heap) =>
                cellAt h71 b4_4 (o4_4 + 4) = some (.slice a27_8 n27_8 c27_8) ∧
                appendH h71 ty_S_int 1 [.slice none 0 0] a27_8 n27_8 c27_8 (some ⟨h69.size, 0, none⟩) 1 fun (a31_72 : Option Addr) (n31_72 c31_72 : Nat) (h72 : Heap) =>
                ∃ (e73 : TypeId) (c73 : List Value), Row h72 b4_4 e73 c73 ∧ o4_4 + 3 < c73.length ∧
                ∀ h74 : Heap, h74 = putRow h72 b4_4 e73 (c73.set (o4_4 + 3) (.slice a25_71 n25_71 c25_71)) →
                ∃ (e75 : TypeId) (c75 : List Value), Row h74 b4_4 e75 c75 ∧ o4_4 + 4 < c75.length ∧
                ∀ h76 : Heap, h76 = putRow h74 b4_4 e75 (c75.set (o4_4 + 4) (.slice a31_72 n31_72 c31_72)) →
                I5 [.int .i64 (IntKind.i64.wrap (x18_6 + 1))] h76 ∧ μ5 [.int .i64 (IntKind.i64.wrap (x18_6 + 1))] h76 < μ5 [.int .i64 x18_6] h5))))) ∧
          (0 ≤ ((np0_1 : Nat) : Int) ∧ ((np0_1 : Nat) : Int) ≤ ((np0_1 : Nat) : Int) ∧ ((np0_1 : Nat) : Int) ≤ 1099511627776 ∧ ((8 : Nat) : Int) * ((np0_1 : Nat) : Int) ≤ 281474976710656 ∧
            ∀ h44 : Heap, h44 = newRowH h43 ty_int (repl [.int .i64 0] np0_1) →
            cellAt h44 b4_4 (o4_4 + 4) = some (.slice a27_8 n27_8 c27_8) ∧
            cellAt h44 b4_4 (o4_4 + 3) = some (.slice a21_7 n21_7 c21_7) ∧
            ((∀ h53 : Heap, h53 = newRowH h44 ty_S_bool [.slice (some ⟨h5.size, 0, none⟩) np0_1 np0_1] →
              cellAt h53 b4_4 (o4_4 + 4) = some (.slice a27_8 n27_8 c27_8) ∧
              cellAt h53 b4_4 (o4_4 + 3) = some (.slice a21_7 n21_7 c21_7) ∧
              ((appendH h53 ty_S_bool 1 [.slice none 0 0] a21_7 n21_7 c21_7 (some ⟨h44.size, 0, none⟩) 1 fun (a25_61 : Option Addr) (n25_61 c25_61 : Nat) (h61 : Heap) =>
                cellAt h61 b4_4 (o4_4 + 4) = some (.slice a27_8 n27_8 c27_8) ∧
                ∀ h62 : Heap, h62 = newRowH h61 ty_S_int [.slice (some ⟨h43.size, 0, none⟩) np0_1 np0_1] →
                cellAt h62 b4_4 (o4_4 + 4) = some (.slice a27_8 n27_8 c27_8) ∧
                appendH h62 ty_S_int 1 [.slice none 0 0] a27_8 n27_8 c27_8 (some ⟨h61.size, 0, none⟩) 1 fun (a31_63 : Option Addr) (n31_63 c31_63 : Nat) (h63 : Heap) =>
                ∃ (e64 : TypeId) (c64 : List Value), Row h63 b4_4 e64 c64 ∧ o4_4 + 3 < c64.length ∧
                ∀ h65 : Heap, h65 = putRow h63 b4_4 e64 (c64.set (o4_4 + 3) (.slice a25_61 n25_61 c25_61)) →
                ∃ (e66 : TypeId) (c66 : List Value), Row h65 b4_4 e66 c66 ∧ o4_4 + 4 < c66.length ∧
                ∀ h67 : Heap, h67 = putRow h65 b4_4 e66 (c66.set (o4_4 + 4) (.slice a31_63 n31_63 c31_63)) →
                I5 [.int .i64 (IntKind.i64.wrap (x18_6 + 1))] h67 ∧ μ5 [.int .i64 (IntKind.i64.wrap (x18_6 + 1))] h67 < μ5 [.int .i64 x18_6] h5) ∧
              (∀ h54 : Heap, h54 = newRowH h53 ty_S_int [.slice (some ⟨h43.size, 0, none⟩) np0_1 np0_1] →
                cellAt h54 b4_4 (o4_4 + 4) = some (.slice a27_8 n27_8 c27_8) ∧
                cellAt h54 b4_4 (o4_4 + 3) = some (.slice a21_7 n21_7 c21_7) ∧
                appendH h54 ty_S_bool 1 [.slice none 0 0] a21_7 n21_7 c21_7 (some ⟨h44.size, 0, none⟩) 1 fun (a25_55 : Option Addr) (n25_55 c25_55 : Nat) (h55 : Heap) =>
                cellAt h55 b4_4 (o4_4 + 4) = some (.slice a27_8 n27_8 c27_8) ∧
                appendH h55 ty_S_int 1 [.slice none 0 0] a27_8 n27_8 c27_8 (some ⟨h53.size, 0, none⟩) 1 fun (a31_56 : Option Addr) (n31_56 c31_56 : Nat) (h56 : Heap) =>
                ∃ (e57 : TypeId) (c57 : List Value), Row h56 b4_4 e57 c57 ∧ o4_4 + 3 < c57.length ∧
                ∀ h58 : Heap, h58 = putRow h56 b4_4 e57 (c57.set (o4_4 + 3) (.slice a25_55 n25_55 c25_55)) →
                ∃ (e59 : TypeId) (c59 : List Value), Row h58 b4_4 e59 c59 ∧ o4_4 + 4 < c59.length ∧
                ∀ h60 : Heap, h60 = putRow h58 b4_4 e59 (c59.set (o4_4 + 4) (.slice a31_56 n31_56 c31_56)) →
                I5 [.int .i64 (IntKind.i64.wrap (x18_6 + 1))] h60 ∧ μ5 [.int .i64 (IntKind.i64.wrap (x18_6 + 1))] h60 < μ5 [.int .i64 x18_6] h5))) ∧
            (∀ h45 : Heap, h45 = newRowH h44 ty_S_int [.slice (some ⟨h43.size, 0, none⟩) np0_1 np0_1] →
              cellAt h45 b4_4 (o4_4 + 4) = some (.slice a27_8 n27_8 c27_8) ∧
              cellAt h45 b4_4 (o4_4 + 3) = some (.slice a21_7 n21_7 c21_7) ∧
              ∀ h46 : Heap, h46 = newRowH h45 ty_S_bool [.slice (some ⟨h5.size, 0, none⟩) np0_1 np0_1] →
              cellAt h46 b4_4 (o4_4 + 4) = some (.slice a27_8 n27_8 c27_8) ∧
              cellAt h46 b4_4 (o4_4 + 3) = some (.slice a21_7 n21_7 c21_7) ∧
              appendH h46 ty_S_bool 1 [.slice none 0 0] a21_7 n21_7 c21_7 (some ⟨h45.size, 0, none⟩) 1 fun (a25_47 : Option Addr) (n25_47 c25_47 : Nat) (h47 : Heap) =>
              cellAt h47 b4_4 (o4_4 + 4) = some (.slice a27_8 n27_8 c27_8) ∧
              appendH h47 ty_S_int 1 [.slice none 0 0] a27_8 n27_8 c27_8 (some ⟨h44.size, 0, none⟩) 1 fun (a31_48 : Option Addr) (n31_48 c31_48 : Nat) (h48 : Heap) =>
              ∃ (e49 : TypeId) (c49 : List Value), Row h48 b4_4 e49 c49 ∧ o4_4 + 3 < c49.length ∧
              ∀ h50 : Heap, h50 = putRow h48 b4_4 e49 (c49.set (o4_4 + 3) (.slice a25_47 n25_47 c25_47)) →
              ∃ (e51 : TypeId) (c51 : List Value), Row h50 b4_4 e51 c51 ∧ o4_4 + 4 < c51.length ∧
              ∀ h52 : Heap, h52 = putRow h50 b4_4 e51 (c51.set (o4_4 + 4) (.slice a31_48 n31_48 c31_48)) →
              I5 [.int .i64 (IntKind.i64.wrap (x18_6 + 1))] h52 ∧ μ5 [.int .i64 (IntKind.i64.wrap (x18_6 + 1))] h52 < μ5 [.int .i64 x18_6] h5))))) ∧
        (0 ≤ ((np0_1 : Nat) : Int) ∧ ((np0_1 : Nat) : Int) ≤ ((np0_1 : Nat) : Int) ∧ ((np0_1 : Nat) : Int) ≤ 1099511627776 ∧ ((8 : Nat) : Int) * ((np0_1 : Nat) : Int) ≤ 281474976710656 ∧
          ∀ h9 : Heap, h9 = newRowH h5 ty_int (repl [.int .i64 0] np0_1) →
          cellAt h9 b4_4 (o4_4 + 4) = some (.slice a27_8 n27_8 c27_8) ∧
          cellAt h9 b4_4 (o4_4 + 3) = some (.slice a21_7 n21_7 c21_7) ∧
          ((0 ≤ ((np0_1 : Nat) : Int) ∧ ((np0_1 : Nat) : Int) ≤ ((np0_1 : Nat) : Int) ∧ ((np0_1 : Nat) : Int) ≤ 1099511627776 ∧ ((1 : Nat) : Int) * ((np0_1 : Nat) : Int) ≤ 281474976710656 ∧
            ∀ h19 : Heap, h19 = newRowH h9 ty_bool (repl [.bool false] np0_1) →
            cellAt h19 b4_4 (o4_4 + 4) = some (.slice a27_8 n27_8 c27_8) ∧
            cellAt h19 b4_4 (o4_4 + 3) = some (.slice a21_7 n21_7 c21_7) ∧
            ((∀ h28 : Heap, h28 = newRowH h19 ty_S_bool [.slice (some ⟨h9.size, 0, none⟩) np0_1 np0_1] →
              cellAt h28 b4_4 (o4_4 + 4) = some (.slice a27_8 n27_8 c27_8) ∧
              cellAt h28 b4_4 (o4_4 + 3) = some (.slice a21_7 n21_7 c21_7) ∧
              ((appendH h28 ty_S_bool 1 [.slice none 0 0] a21_7 n21_7 c21_7 (some ⟨h19.size, 0, none⟩) 1 fun (a25_36 : Option Addr) (n25_36 c25_36 : Nat) (h36 : Heap) =>
                cellAt h36 b4_4 (o4_4 + 4) = some (.slice a27_8 n27_8 c27_8) ∧
                ∀ h37 : Heap, h37 = newRowH h36 ty_S_int [.slice (some ⟨h5.size, 0, none⟩) np0_1 np0_1] →
                cellAt h37 b4_4 (o4_4 + 4) = some (.slice a27_8 n27_8 c27_8) ∧
                appendH h37 ty_S_int 1 [.slice none 0 0] a27_8 n27_8 c27_8 (some ⟨h36.size, 0, none⟩) 1 fun (a31_38 : Option Addr) (n31_38 c31_38 : Nat) (h38 : Heap) =>
                ∃ (e39 : TypeId) (c39 : List Value), Row h38 b4_4 e39 c39 ∧ o4_4 + 3 < c39.length ∧
                ∀ h40 : Heap, h40 = putRow h38 b4_4 e39 (c39.set (o4_4 + 3) (.slice a25_36 n25_36 c25_36)) →
                ∃ (e41 : TypeId) (c41 : List Value), Row h40 b4_4 e41 c41 ∧ o4_4 + 4 < c41.length ∧
                ∀ h42 : Heap, h42 = putRow h40 b4_4 e41 (c41.set (o4_4 + 4) (.slice a31_38 n31_38 c31_38)) →
                I5 [.int .i64 (IntKind.i64.wrap (x18_6 + 1))] h42 ∧ μ5 [.int .i64 (IntKind.i64.wrap (x18_6 + 1))] h42 < μ5 [.int .i64 x18_6] h5) ∧
              (∀ h29 : Heap, h29 = newRowH h28 ty_S_int [.slice (some ⟨h5.size, 0, none⟩) np0_1 np0_1] →
                cellAt h29 b4_4 (o4_4 + 4) = some (.slice a27_8 n27_8 c27_8) ∧
                cellAt h29 b4_4 (o4_4 + 3) = some (.slice a21_7 n21_7 c21_7) ∧
                appendH h29 ty_S_bool 1 [.slice none 0 0] a21_7 n21_7 c21_7 (some ⟨h19.size, 0, none⟩) 1 fun (a25_30 : Option Addr) (n25_30 c25_30 : Nat) (h30 : Heap) =>
                cellAt h30 b4_4 (o4_4 + 4) = some (.slice a27_8 n27_8 c27_8) ∧
                appendH h30 ty_S_int 1 [.slice none 0 0] a27_8 n27_8 c27_8 (some ⟨h28.size, 0, none⟩) 1 fun (a31_31 : Option Addr) (n31_31 c31_31 : Nat) (h31 : Heap) =>
                ∃ (e32 : TypeId) (c32 : List Value), Row h31 b4_4 e32 c32 ∧ o4_4 + 3 < c32.length ∧
                ∀ h33 : Heap, h33 = putRow h31 b4_4 e32 (c32.set (o4_4 + 3) (.slice a25_30 n25_30 c25_30)) →
                ∃ (e34 : TypeId) (c34 : List Value), Row h33 b4_4 e34 c34 ∧ o4_4 + 4 < c34.length ∧
                ∀ h35 : Heap, h35 = putRow h33 b4_4 e34 (c34.set (o4_4 + 4) (.slice a31_31 n31_31 c31_31)) →
                I5 [.int .i64 (IntKind.i64.wrap (x18_6 + 1))] h35 ∧ μ5 [.int .i64 (IntKind.i64.wrap (x18_6 + 1))] h35 < μ5 [.int .i64 x18_6] h5))) ∧
            (∀ h20 : Heap, h20 = newRowH h19 ty_S_int [.slice (some ⟨h5.size, 0, none⟩) np0_1 np0_1] →
              cellAt h20 b4_4 (o4_4 + 4) = some (.slice a27_8 n27_8 c27_8) ∧
              cellAt h20 b4_4 (o4_4 + 3) = some (.slice a21_7 n21_7 c21_7) ∧
              ∀ h21 : Heap, h21 = newRowH h20 ty_S_bool [.slice (some ⟨h9.size, 0, none⟩) np0_1 np0_1] →
              cellAt h21 b4_4 (o4_4 + 4) = some (.slice a27_8 n27_8 c27_8) ∧
              cellAt h21 b4_4 (o4_4 + 3) = some (.slice a21_7 n21_7 c21_7) ∧
              appendH h21 ty_S_bool 1 [.slice none 0 0] a21_7 n21_7 c21_7 (some ⟨h20.size, 0, none⟩) 1 fun (a25_22 : Option Addr) (n25_22 c25_22 : Nat) (h22 : Heap) =>
              cellAt h22 b4_4 (o4_4 + 4) = some (.slice a27_8 n27_8 c27_8) ∧
              appendH h22 ty_S_int 1 [.slice none 0 0] a27_8 n27_8 c27_8 (some ⟨h19.size, 0, none⟩) 1 fun (a31_23 : Option Addr) (n31_23 c31_23 : Nat) (h23 : Heap) =>
              ∃ (e24 : TypeId) (c24 : List Value), Row h23 b4_4 e24 c24 ∧ o4_4 + 3 < c24.length ∧
              ∀ h25 : Heap, h25 = putRow h23 b4_4 e24 (c24.set (o4_4 + 3) (.slice a25_22 n25_22 c25_22)) →
              ∃ (e26 : TypeId) (c26 : List Value), Row h25 b4_4 e26 c26 ∧ o4_4 + 4 < c26.length ∧
              ∀ h27 : Heap, h27 = putRow h25 b4_4 e26 (c26.set (o4_4 + 4) (.slice a31_23 n31_23 c31_23)) →
              I5 [.int .i64 (IntKind.i64.wrap (x18_6 + 1))] h27 ∧ μ5 [.int .i64 (IntKind.i64.wrap (x18_6 + 1))] h27 < μ5 [.int .i64 x18_6] h5))) ∧
          (∀ h10 : Heap, h10 = newRowH h9 ty_S_int [.slice (some ⟨h5.size, 0, none⟩) np0_1 np0_1] →
            cellAt h10 b4_4 (o4_4 + 4) = some (.slice a27_8 n27_8 c27_8) ∧
            cellAt h10 b4_4 (o4_4 + 3) = some (.slice a21_7 n21_7 c21_7) ∧
            0 ≤ ((np0_1 : Nat) : Int) ∧ ((np0_1 : Nat) : Int) ≤ ((np0_1 : Nat) : Int) ∧ ((np0_1 : Nat) : Int) ≤ 1099511627776 ∧ ((1 : Nat) : Int) * ((np0_1 : Nat) : Int) ≤ 281474976710656 ∧
            ∀ h11 : Heap, h11 = newRowH h10 ty_bool (repl [.bool false] np0_1) →
            cellAt h11 b4_4 (o4_4 + 4) = some (.slice a27_8 n27_8 c27_8) ∧
            cellAt h11 b4_4 (o4_4 + 3) = some (.slice a21_7 n21_7 c21_7) ∧
            ∀ h12 : Heap, h12 = newRowH h11 ty_S_bool [.slice (some ⟨h10.size, 0, none⟩) np0_1 np0_1] →
            cellAt h12 b4_4 (o4_4 + 4) = some (.slice a27_8 n27_8 c27_8) ∧
            cellAt h12 b4_4 (o4_4 + 3) = some (.slice a21_7 n21_7 c21_7) ∧
            appendH h12 ty_S_bool 1 [.slice none 0 0] a21_7 n21_7 c21_7 (some ⟨h11.size, 0, none⟩) 1 fun (a25_13 : Option Addr) (n25_13 c25_13 : Nat) (h13 : Heap) =>
            cellAt h13 b4_4 (o4_4 + 4) = some (.slice a27_8 n27_8 c27_8) ∧
            appendH h13 ty_S_int 1 [.slice none 0 0] a27_8 n27_8 c27_8 (some ⟨h9.size, 0, none⟩) 1 fun (a31_14 : Option Addr) (n31_14 c31_14 : Nat) (h14 : Heap) =>
            ∃ (e15 : TypeId) (c15 : List Value), Row h14 b4_4 e15 c15 ∧ o4_4 + 3 < c15.length ∧
            ∀ h16 : Heap, h16 = putRow h14 b4_4 e15 (c15.set (o4_4 + 3) (.slice a25_13 n25_13 c25_13)) →
            ∃ (e17 : TypeId) (c17 : List Value), Row h16 b4_4 e17 c17 ∧ o4_4 + 4 < c17.length ∧
            ∀ h18 : Heap, h18 = putRow h16 b4_4 e17 (c17.set (o4_4 + 4) (.slice a31_14 n31_14 c31_14)) →
            I5 [.int .i64 (IntKind.i64.wrap (x18_6 + 1))] h18 ∧ μ5 [.int .i64 (IntKind.i64.wrap (x18_6 + 1))] h18 < μ5 [.int .i64 x18_6] h5))))) ∧
      ((decide ((x18_6 : Int) < ((np0_1 : Nat) : Int))) = false →
        ∃ (a35_0_92 : Option Addr) (n35_0_92 c35_0_92 : Nat), cellAt h5 b4_4 o4_4 = some (.slice a35_0_92 n35_0_92 c35_0_92) ∧
        ∃ (a35_1_93 : Option Addr) (n35_1_93 c35_1_93 : Nat), cellAt h5 b4_4 (o4_4 + 1) = some (.slice a35_1_93 n35_1_93 c35_1_93) ∧
        ∃ (a35_2_94 : Option Addr) (n35_2_94 c35_2_94 : Nat), cellAt h5 b4_4 (o4_4 + 2) = some (.slice a35_2_94 n35_2_94 c35_2_94) ∧
        ∃ (a35_3_95 : Option Addr) (n35_3_95 c35_3_95 : Nat), cellAt h5 b4_4 (o4_4 + 3) = some (.slice a35_3_95 n35_3_95 c35_3_95) ∧
        ∃ (a35_4_96 : Option Addr) (n35_4_96 c35_4_96 : Nat), cellAt h5 b4_4 (o4_4 + 4) = some (.slice a35_4_96 n35_4_96 c35_4_96) ∧
        ∃ (e97 : TypeId) (c97 : List Value), Row h5 h.size e97 c97 ∧ 0 + 5 ≤ c97.length ∧
        ∀ h98 : Heap, h98 = putRow h5 h.size e97 (splice c97 0 [.slice a35_0_92 n35_0_92 c35_0_92, .slice a35_1_93 n35_1_93 c35_1_93, .slice a35_2_94 n35_2_94 c35_2_94, .slice a35_3_95 n35_3_95 c35_3_95, .slice a35_4_96 n35_4_96 c35_4_96]) →
        ∃ (ar0_0_99 : Option Addr) (nr0_0_99 cr0_0_99 : Nat), cellAt h98 h.size 0 = some (.slice ar0_0_99 nr0_0_99 cr0_0_99) ∧
        ∃ (ar0_1_100 : Option Addr) (nr0_1_100 cr0_1_100 : Nat), cellAt h98 h.size 1 = some (.slice ar0_1_100 nr0_1_100 cr0_1_100) ∧
        ∃ (ar0_2_101 : Option Addr) (nr0_2_101 cr0_2_101 : Nat), cellAt h98 h.size 2 = some (.slice ar0_2_101 nr0_2_101 cr0_2_101) ∧
        ∃ (ar0_3_102 : Option Addr) (nr0_3_102 cr0_3_102 : Nat), cellAt h98 h.size 3 = some (.slice ar0_3_102 nr0_3_102 cr0_3_102) ∧
        ∃ (ar0_4_103 : Option Addr) (nr0_4_103 cr0_4_103 : Nat), cellAt h98 h.size 4 = some (.slice ar0_4_103 nr0_4_103 cr0_4_103) ∧
        R (.agg ⟨[.slice ar0_0_99 nr0_0_99 cr0_0_99, .slice ar0_1_100 nr0_1_100 cr0_1_100, .slice ar0_2_101 nr0_2_101 cr0_2_101, .slice ar0_3_102 nr0_3_102 cr0_3_102, .slice ar0_4_103 nr0_4_103 cr0_4_103]⟩) h98))) → K3 [.pointer (some ⟨b4_4, o4_4, none⟩)] h3) →
  ((CallsH PP fn_slices_Clone_int [.slice ap0_1 np0_1 cp0_1] h2 fun (v289 : Value) (h289 : Heap) =>
    ∃ (a8_290 : Option Addr) (n8_290 c8_290 : Nat), v289 = .slice a8_290 n8_290 c8_290 ∧
    ((0 ≤ IntKind.i64.wrap (((np0_1 : Nat) : Int) * ((np0_1 : Nat) : Int)) ∧ IntKind.i64.wrap (((np0_1 : Nat) : Int) * ((np0_1 : Nat) : Int)) ≤ IntKind.i64.wrap (((np0_1 : Nat) : Int) * ((np0_1 : Nat) : Int)) ∧ IntKind.i64.wrap (((np0_1 : Nat) : Int) * ((np0_1 : Nat) : Int)) ≤ 1099511627776 ∧ ((24 : Nat) : Int) * (IntKind.i64.wrap (((np0_1 : Nat) : Int) * ((np0_1 : Nat) : Int))) ≤ 281474976710656 ∧
      ∀ h342 : Heap, h342 = newRowH h289 ty_S_int (repl [.slice none 0 0] (IntKind.i64.wrap (((np0_1 : Nat) : Int) * ((np0_1 : Nat) : Int))).toNat) →
      ((∀ h349 : Heap, h349 = newRowH h342 ty_int [.int .i64 (-1)] →
        ((CallsH PP fn_slices_Repeat_int [.slice (some ⟨h342.size, 0, none⟩) 1 1, .int .i64 ((np0_1 : Nat) : Int)] h349 fun (v355 : Value) (h355 : Heap) =>
          ∃ (a15_356 : Option Addr) (n15_356 c15_356 : Nat), v355 = .slice a15_356 n15_356 c15_356 ∧
          ∀ h357 : Heap, h357 = newRowH h355 ty_impl_Bank [.slice none 0 0, .slice none 0 0, .slice none 0 0, .slice none 0 0, .slice none 0 0] →
          ∃ (e358 : TypeId) (c358 : List Value), Row h357 h355.size e358 c358 ∧ 0 + 5 ≤ c358.length ∧
          ∀ h359 : Heap, h359 = putRow h357 h355.size e358 (splice c358 0 [.slice a8_290 n8_290 c8_290, .slice (some ⟨h289.size, 0, none⟩) ((IntKind.i64.wrap (((np0_1 : Nat) : Int) * ((np0_1 : Nat) : Int))).toNat) ((IntKind.i64.wrap (((np0_1 : Nat) : Int) * ((np0_1 : Nat) : Int))).toNat), .slice a15_356 n15_356 c15_356, .slice none 0 0, .slice none 0 0]) →
          K3 [.pointer (some ⟨h355.size, 0, none⟩)] h359) ∧
        (∀ h350 : Heap, h350 = newRowH h349 ty_impl_Bank [.slice none 0 0, .slice none 0 0, .slice none 0 0, .slice none 0 0, .slice none 0 0] →
          CallsH PP fn_slices_Repeat_int [.slice (some ⟨h342.size, 0, none⟩) 1 1, .int .i64 ((np0_1 : Nat) : Int)] h350 fun (v351 : Value) (h351 : Heap) =>
          ∃ (a15_352 : Option Addr) (n15_352 c15_352 : Nat), v351 = .slice a15_352 n15_352 c15_352 ∧
          ∃ (e353 : TypeId) (c353 : List Value), Row h351 h349.size e353 c353 ∧ 0 + 5 ≤ c353.length ∧
          ∀ h354 : Heap, h354 = putRow h351 h349.size e353 (splice c353 0 [.slice a8_290 n8_290 c8_290, .slice (some ⟨h289.size, 0, none⟩) ((IntKind.i64.wrap (((np0_1 : Nat) : Int) * ((np0_1 : Nat) : Int))).toNat) ((IntKind.i64.wrap (((np0_1 : Nat) : Int) * ((np0_1 : Nat) : Int))).toNat), .slice a15_352 n15_352 c15_352, .slice none 0 0, .slice none 0 0]) →
          K3 [.pointer (some ⟨h349.size, 0, none⟩)] h354))) ∧
      (∀ h343 : Heap, h343 = newRowH h342 ty_impl_Bank [.slice none 0 0, .slice none 0 0, .slice none 0 0, .slice none 0 0, .slice none 0 0] →
        ∀ h344 : Heap, h344 = newRowH h343 ty_int [.int .i64 (-1)] →
        CallsH PP fn_slices_Repeat_int [.slice (some ⟨h343.size, 0, none⟩) 1 1, .int .i64 ((np0_1 : Nat) : Int)] h344 fun (v345 : Value) (h345 : Heap) =>
        ∃ (a15_346 : Option Addr) (n15_346 c15_346 : Nat), v345 = .slice a15_346 n15_346 c15_346 ∧
        ∃ (e347 : TypeId) (c347 : List Value), Row h345 h342.size e347 c347 ∧ 0 + 5 ≤ c347.length ∧
        ∀ h348 : Heap, h348 = putRow h345 h342.size e347 (splice c347 0 [.slice a8_290 n8_290 c8_290, .slice (some ⟨h289.size, 0, none⟩) ((IntKind.i64.wrap (((np0_1 : Nat) : Int) * ((np0_1 : Nat) : Int))).toNat) ((IntKind.i64.wrap (((np0_1 : Nat) : Int) * ((np0_1 : Nat) : Int))).toNat), .slice a15_346 n15_346 c15_346, .slice none 0 0, .slice none 0 0]) →
        K3 [.pointer (some ⟨h342.size, 0, none⟩)] h348))) ∧
    ((∀ h309 : Heap, h309 = newRowH h289 ty_int [.int .i64 (-1)] →
      ((0 ≤ IntKind.i64.wrap (((np0_1 : Nat) : Int) * ((np0_1 : Nat) : Int)) ∧ IntKind.i64.wrap (((np0_1 : Nat) : Int) * ((np0_1 : Nat) : Int)) ≤ IntKind.i64.wrap (((np0_1 : Nat) : Int) * ((np0_1 : Nat) : Int)) ∧ IntKind.i64.wrap (((np0_1 : Nat) : Int) * ((np0_1 : Nat) : Int)) ≤ 1099511627776 ∧ ((24 : Nat) : Int) * (IntKind.i64.wrap (((np0_1 : Nat) : Int) * ((np0_1 : Nat) : Int))) ≤ 281474976710656 ∧
        ∀ h331 : Heap, h331 = newRowH h309 ty_S_int (repl [.slice none 0 0] (IntKind.i64.wrap (((np0_1 : Nat) : Int) * ((np0_1 : Nat) : Int))).toNat) →
        ((CallsH PP fn_slices_Repeat_int [.slice (some ⟨h289.size, 0, none⟩) 1 1, .int .i64 ((np0_1 : Nat) : Int)] h331 fun (v337 : Value) (h337 : Heap) =>
          ∃ (a15_338 : Option Addr) (n15_338 c15_338 : Nat), v337 = .slice a15_338 n15_338 c15_338 ∧
          ∀ h339 : Heap, h339 = newRowH h337 ty_impl_Bank [.slice none 0 0, .slice none 0 0, .slice none 0 0, .slice none 0 0, .slice none 0 0] →
          ∃ (e340 : TypeId) (c340 : List Value), Row h339 h337.size e340 c340 ∧ 0 + 5 ≤ c340.length ∧
          ∀ h341 : Heap, h341 = putRow h339 h337.size e340 (splice c340 0 [.slice a8_290 n8_290 c8_290, .slice (some ⟨h309.size, 0, none⟩) ((IntKind.i64.wrap (((np0_1 : Nat) : Int) * ((np0_1 : Nat) : Int))).toNat) ((IntKind.i64.wrap (((np0_1 : Nat) : Int) * ((np0_1 : Nat) : Int))).toNat), .slice a15_338 n15_338 c15_338, .slice none 0 0, .slice none 0 0]) →
          K3 [.pointer (some ⟨h337.size, 0, none⟩)] h341) ∧
        (∀ h332 : Heap, h332 = newRowH h331 ty_impl_Bank [.slice none 0 0, .slice none 0 0, .slice none 0 0, .slice none 0 0, .slice none 0 0] →
          CallsH PP fn_slices_Repeat_int [.slice (some ⟨h289.size, 0, none⟩) 1 1, .int .i64 ((np0_1 : Nat) : Int)] h332 fun (v333 : Value) (h333 : Heap) =>
          ∃ (a15_334 : Option Addr) (n15_334 c15_334 : Nat), v333 = .slice a15_334 n15_334 c15_334 ∧
          ∃ (e335 : TypeId) (c335 : List Value), Row h333 h331.size e335 c335 ∧ 0 + 5 ≤ c335.length ∧
          ∀ h336 : Heap, h336 = putRow h333 h331.size e335 (splice c335 0 [.slice a8_290 n8_290 c8_290, .slice (some ⟨h309.size, 0, none⟩) ((IntKind.i64.wrap (((np0_1 : Nat) : Int) * ((np0_1 : Nat) : Int))).toNat) ((IntKind.i64.wrap (((np0_1 : Nat) : Int) * ((np0_1 : Nat) : Int))).toNat), .slice a15_334 n15_334 c15_334, .slice none 0 0, .slice none 0 0]) →
          K3 [.pointer (some ⟨h331.size, 0, none⟩)] h336))) ∧
      ((CallsH PP fn_slices_Repeat_int [.slice (some ⟨h289.size, 0, none⟩) 1 1, .int .i64 ((np0_1 : Nat) : Int)] h309 fun (v321 : Value) (h321 : Heap) =>
        ∃ (a15_322 : Option Addr) (n15_322 c15_322 : Nat), v321 = .slice a15_322 n15_322 c15_322 ∧
        ((0 ≤ IntKind.i64.wrap (((np0_1 : Nat) : Int) * ((np0_1 : Nat) : Int)) ∧ IntKind.i64.wrap (((np0_1 : Nat) : Int) * ((np0_1 : Nat) : Int)) ≤ IntKind.i64.wrap (((np0_1 : Nat) : Int) * ((np0_1 : Nat) : Int)) ∧ IntKind.i64.wrap (((np0_1 : Nat) : Int) * ((np0_1 : Nat) : Int)) ≤ 1099511627776 ∧ ((24 : Nat) : Int) * (IntKind.i64.wrap (((np0_1 : Nat) : Int) * ((np0_1 : Nat) : Int))) ≤ 281474976710656 ∧
          ∀ h327 : Heap, h327 = newRowH h321 ty_S_int (repl [.slice none 0 0] (IntKind.i64.wrap (((np0_1 : Nat) : Int) * ((np0_1 : Nat) : Int))).toNat) →
          ∀ h328 : Heap, h328 = newRowH h327 ty_impl_Bank [.slice none 0 0, .slice none 0 0, .slice none 0 0, .slice none 0 0, .slice none 0 0] →
          ∃ (e329 : TypeId) (c329 : List Value), Row h328 h327.size e329 c329 ∧ 0 + 5 ≤ c329.length ∧
          ∀ h330 : Heap, h330 = putRow h328 h327.size e329 (splice c329 0 [.slice a8_290 n8_290 c8_290, .slice (some ⟨h321.size, 0, none⟩) ((IntKind.i64.wrap (((np0_1 : Nat) : Int) * ((np0_1 : Nat) : Int))).toNat) ((IntKind.i64.wrap (((np0_1 : Nat) : Int) * ((np0_1 : Nat) : Int))).toNat), .slice a15_322 n15_322 c15_322, .slice none 0 0, .slice none 0 0]) →
          K3 [.pointer (some ⟨h327.size, 0, none⟩)] h330) ∧
        (∀ h323 : Heap, h323 = newRowH h321 ty_impl_Bank [.slice none 0 0, .slice none 0 0, .slice none 0 0, .slice none 0 0, .slice none 0 0] →
          0 ≤ IntKind.i64.wrap (((np0_1 : Nat) : Int) * ((np0_1 : Nat) : Int)) ∧ IntKind.i64.wrap (((np0_1 : Nat) : Int) * ((np0_1 : Nat) : Int)) ≤ IntKind.i64.wrap (((np0_1 : Nat) : Int) * ((np0_1 : Nat) : Int)) ∧ IntKind.i64.wrap (((np0_1 : Nat) : Int) * ((np0_1 : Nat) : Int)) ≤ 1099511627776 ∧ ((24 : Nat) : Int) * (IntKind.i64.wrap (((np0_1 : Nat) : Int) * ((np0_1 : Nat) : Int))) ≤ 281474976710656 ∧
          ∀ h324 : Heap, h324 = newRowH h323 ty_S_int (repl [.slice none 0 0] (IntKind.i64.wrap (((np0_1 : Nat) : Int) * ((np0_1 : Nat) : Int))).toNat) →
          ∃ (e325 : TypeId) (c325 : List Value), Row h324 h321.size e325 c325 ∧ 0 + 5 ≤ c325.length ∧
          ∀ h326 : Heap, h326 = putRow h324 h321.size e325 (splice c325 0 [.slice a8_290 n8_290 c8_290, .slice (some ⟨h323.size, 0, none⟩) ((IntKind.i64.wrap (((np0_1 : Nat) : Int) * ((np0_1 : Nat) : Int))).toNat) ((IntKind.i64.wrap (((np0_1 : Nat) : Int) * ((np0_1 : Nat) : Int))).toNat), .slice a15_322 n15_322 c15_322, .slice none 0 0, .slice none 0 0]) →
          K3 [.pointer (some ⟨h321.size, 0, none⟩)] h326))) ∧
      (∀ h310 : Heap, h310 = newRowH h309 ty_impl_Bank [.slice none 0 0, .slice none 0 0, .slice none 0 0, .slice none 0 0, .slice none 0 0] →
        ((0 ≤ IntKind.i64.wrap (((np0_1 : Nat) : Int) * ((np0_1 : Nat) : Int)) ∧ IntKind.i64.wrap (((np0_1 : Nat) : Int) * ((np0_1 : Nat) : Int)) ≤ IntKind.i64.wrap (((np0_1 : Nat) : Int) * ((np0_1 : Nat) : Int)) ∧ IntKind.i64.wrap (((np0_1 : Nat) : Int) * ((np0_1 : Nat) : Int)) ≤ 1099511627776 ∧ ((24 : Nat) : Int) * (IntKind.i64.wrap (((np0_1 : Nat) : Int) * ((np0_1 : Nat) : Int))) ≤ 281474976710656 ∧
          ∀ h316 : Heap, h316 = newRowH h310 ty_S_int (repl [.slice none 0 0] (IntKind.i64.wrap (((np0_1 : Nat) : Int) * ((np0_1 : Nat) : Int))).toNat) →
          CallsH PP fn_slices_Repeat_int [.slice (some ⟨h289.size, 0, none⟩) 1 1, .int .i64 ((np0_1 : Nat) : Int)] h316 fun (v317 : Value) (h317 : Heap) =>
          ∃ (a15_318 : Option Addr) (n15_318 c15_318 : Nat), v317 = .slice a15_318 n15_318 c15_318 ∧
          ∃ (e319 : TypeId) (c319 : List Value), Row h317 h309.size e319 c319 ∧ 0 + 5 ≤ c319.length ∧
          ∀ h320 : Heap, h320 = putRow h317 h309.size e319 (splice c319 0 [.slice a8_290 n8_290 c8_290, .slice (some ⟨h310.size, 0, none⟩) ((IntKind.i64.wrap (((np0_1 : Nat) : Int) * ((np0_1 : Nat) : Int))).toNat) ((IntKind.i64.wrap (((np0_1 : Nat) : Int) * ((np0_1 : Nat) : Int))).toNat), .slice a15_318 n15_318 c15_318, .slice none 0 0, .slice none 0 0]) →
          K3 [.pointer (some ⟨h309.size, 0, none⟩)] h320) ∧
        (CallsH PP fn_slices_Repeat_int [.slice (some ⟨h289.size, 0, none⟩) 1 1, .int .i64 ((np0_1 : Nat) : Int)] h310 fun (v311 : Value) (h311 : Heap) =>
          ∃ (a15_312 : Option Addr) (n15_312 c15_312 : Nat), v311 = .slice a15_312 n15_312 c15_312 ∧
          0 ≤ IntKind.i64.wrap (((np0_1 : Nat) : Int) * ((np0_1 : Nat) : Int)) ∧ IntKind.i64.wrap (((np0_1 : Nat) : Int) * ((np0_1 : Nat) : Int)) ≤ IntKind.i64.wrap (((np0_1 : Nat) : Int) * ((np0_1 : Nat) : Int)) ∧ IntKind.i64.wrap (((np0_1 : Nat) : Int) * ((np0_1 : Nat) : Int)) ≤ 1099511627776 ∧ ((24 : Nat) : Int) * (IntKind.i64.wrap (((np0_1 : Nat) : Int) * ((np0_1 : Nat) : Int))) ≤ 281474976710656 ∧
          ∀ h313 : Heap, h313 = newRowH h311 ty_S_int (repl [.slice none 0 0] (IntKind.i64.wrap (((np0_1 : Nat) : Int) * ((np0_1 : Nat) : Int))).toNat) →
          ∃ (e314 : TypeId) (c314 : List Value), Row h313 h309.size e314 c314 ∧ 0 + 5 ≤ c314.length ∧
          ∀ h315 : Heap, h315 = putRow h313 h309.size e314 (splice c314 0 [.slice a8_290 n8_290 c8_290, .slice (some ⟨h311.size, 0, none⟩) ((IntKind.i64.wrap (((np0_1 : Nat) : Int) * ((np0_1 : Nat) : Int))).toNat) ((IntKind.i64.wrap (((np0_1 : Nat) : Int) * ((np0_1 : Nat) : Int))).toNat), .slice a15_312 n15_312 c15_312, .slice none 0 0, .slice none 0 0]) →
          K3 [.pointer (some ⟨h309.size, 0, none⟩)] h315)))))) ∧
    (∀ h291 : Heap, h291 = newRowH h289 ty_impl_Bank [.slice none 0 0, .slice none 0 0, .slice none 0 0, .slice none 0 0, .slice none 0 0] →
      ((0 ≤ IntKind.i64.wrap (((np0_1 : Nat) : Int) * ((np0_1 : Nat) : Int)) ∧ IntKind.i64.wrap (((np0_1 : Nat) : Int) * ((np0_1 : Nat) : Int)) ≤ IntKind.i64.wrap (((np0_1 : Nat) : Int) * ((np0_1 : Nat) : Int)) ∧ IntKind.i64.wrap (((np0_1 : Nat) : Int) * ((np0_1 : Nat) : Int)) ≤ 1099511627776 ∧ ((24 : Nat) : Int) * (IntKind.i64.wrap (((np0_1 : Nat) : Int) * ((np0_1 : Nat) : Int))) ≤ 281474976710656 ∧
        ∀ h303 : Heap, h303 = newRowH h291 ty_S_int (repl [.slice none 0 0] (IntKind.i64.wrap (((np0_1 : Nat) : Int) * ((np0_1 : Nat) : Int))).toNat) →
        ∀ h304 : Heap, h304 = newRowH h303 ty_int [.int .i64 (-1)] →
        CallsH PP fn_slices_Repeat_int [.slice (some ⟨h303.size, 0, none⟩) 1 1, .int .i64 ((np0_1 : Nat) : Int)] h304 fun (v305 : Value) (h305 : Heap) =>
        ∃ (a15_306 : Option Addr) (n15_306 c15_306 : Nat), v305 = .slice a15_306 n15_306 c15_306 ∧
        ∃ (e307 : TypeId) (c307 : List Value), Row h305 h289.size e307 c307 ∧ 0 + 5 ≤ c307.length ∧
        ∀ h308 : Heap, h308 = putRow h305 h289.size e307 (splice c307 0 [.slice a8_290 n8_290 c8_290, .slice (some ⟨h291.size, 0, none⟩) ((IntKind.i64.wrap (((np0_1 : Nat) : Int) * ((np0_1 : Nat) : Int))).toNat) ((IntKind.i64.wrap (((np0_1 : Nat) : Int) * ((np0_1 : Nat) : Int))).toNat), .slice a15_306 n15_306 c15_306, .slice none 0 0, .slice none 0 0]) →
        K3 [.pointer (some ⟨h289.size, 0, none⟩)] h308) ∧
      (∀ h292 : Heap, h292 = newRowH h291 ty_int [.int .i64 (-1)] →
        ((0 ≤ IntKind.i64.wrap (((np0_1 : Nat) : Int) * ((np0_1 : Nat) : Int)) ∧ IntKind.i64.wrap (((np0_1 : Nat) : Int) * ((np0_1 : Nat) : Int)) ≤ IntKind.i64.wrap (((np0_1 : Nat) : Int) * ((np0_1 : Nat) : Int)) ∧ IntKind.i64.wrap (((np0_1 : Nat) : Int) * ((np0_1 : Nat) : Int)) ≤ 1099511627776 ∧ ((24 : Nat) : Int) * (IntKind.i64.wrap (((np0_1 : Nat) : Int) * ((np0_1 : Nat) : Int))) ≤ 281474976710656 ∧
          ∀ h298 : Heap, h298 = newRowH h292 ty_S_int (repl [.slice none 0 0] (IntKind.i64.wrap (((np0_1 : Nat) : Int) * ((np0_1 : Nat) : Int))).toNat) →
          CallsH PP fn_slices_Repeat_int [.slice (some ⟨h291.size, 0, none⟩) 1 1, .int .i64 ((np0_1 : Nat) : Int)] h298 fun (v299 : Value) (h299 : Heap) =>
          ∃ (a15_300 : Option Addr) (n15_300 c15_300 : Nat), v299 = .slice a15_300 n15_300 c15_300 ∧
          ∃ (e301 : TypeId) (c301 : List Value), Row h299 h289.size e301 c301 ∧ 0 + 5 ≤ c301.length ∧
          ∀ h302 : Heap, h302 = putRow h299 h289.size e301 (splice c301 0 [.slice a8_290 n8_290 c8_290, .slice (some ⟨h292.size, 0, none⟩) ((IntKind.i64.wrap (((np0_1 : Nat) : Int) * ((np0_1 : Nat) : Int))).toNat) ((IntKind.i64.wrap (((np0_1 : Nat) : Int) * ((np0_1 : Nat) : Int))).toNat), .slice a15_300 n15_300 c15_300, .slice none 0 0, .slice none 0 0]) →
          K3 [.pointer (some ⟨h289.size, 0, none⟩)] h302) ∧
        (CallsH PP fn_slices_Repeat_int [.slice (some ⟨h291.size, 0, none⟩) 1 1, .int .i64 ((np0_1 : Nat) : Int)] h292 fun (v293 : Value) (h293 : Heap) =>
          ∃ (a15_294 : Option Addr) (n15_294 c15_294 : Nat), v293 = .slice a15_294 n15_294 c15_294 ∧
          0 ≤ IntKind.i64.wrap (((np0_1 : Nat) : Int) * ((np0_1 : Nat) : Int)) ∧ IntKind.i64.wrap (((np0_1 : Nat) : Int) * ((np0_1 : Nat) : Int)) ≤ IntKind.i64.wrap (((np0_1 : Nat) : Int) * ((np0_1 : Nat) : Int)) ∧ IntKind.i64.wrap (((np0_1 : Nat) : Int) * ((np0_1 : Nat) : Int)) ≤ 1099511627776 ∧ ((24 : Nat) : Int) * (IntKind.i64.wrap (((np0_1 : Nat) : Int) * ((np0_1 : Nat) : Int))) ≤ 281474976710656 ∧
          ∀ h295 : Heap, h295 = newRowH h293 ty_S_int (repl [.slice none 0 0] (IntKind.i64.wrap (((np0_1 : Nat) : Int) * ((np0_1 : Nat) : Int))).toNat) →
          ∃ (e296 : TypeId) (c296 : List Value), Row h295 h289.size e296 c296 ∧ 0 + 5 ≤ c296.length ∧
          ∀ h297 : Heap, h297 = putRow h295 h289.size e296 (splice c296 0 [.slice a8_290 n8_290 c8_290, .slice (some ⟨h293.size, 0, none⟩) ((IntKind.i64.wrap (((np0_1 : Nat) : Int) * ((np0_1 : Nat) : Int))).toNat) ((IntKind.i64.wrap (((np0_1 : Nat) : Int) * ((np0_1 : Nat) : Int))).toNat), .slice a15_294 n15_294 c15_294, .slice none 0 0, .slice none 0 0]) →
          K3 [.pointer (some ⟨h289.size, 0, none⟩)] h297)))))))) ∧
  ((0 ≤ IntKind.i64.wrap (((np0_1 : Nat) : Int) * ((np0_1 : Nat) : Int)) ∧ IntKind.i64.wrap (((np0_1 : Nat) : Int) * ((np0_1 : Nat) : Int)) ≤ IntKind.i64.wrap (((np0_1 : Nat) : Int) * ((np0_1 : Nat) : Int)) ∧ IntKind.i64.wrap (((np0_1 : Nat) : Int) * ((np0_1 : Nat) : Int)) ≤ 1099511627776 ∧ ((24 : Nat) : Int) * (IntKind.i64.wrap (((np0_1 : Nat) : Int) * ((np0_1 : Nat) : Int))) ≤ 281474976710656 ∧
    ∀ h234 : Heap, h234 = newRowH h2 ty_S_int (repl [.slice none 0 0] (IntKind.i64.wrap (((np0_1 : Nat) : Int) * ((np0_1 : Nat) : Int))).toNat) →
    ((CallsH PP fn_slices_Clone_int [.slice ap0_1 np0_1 cp0_1] h234 fun (v270 : Value) (h270 : Heap) =>
      ∃ (a8_271 : Option Addr) (n8_271 c8_271 : Nat), v270 = .slice a8_271 n8_271 c8_271 ∧
      ((∀ h278 : Heap, h278 = newRowH h270 ty_int [.int .i64 (-1)] →
        ((CallsH PP fn_slices_Repeat_int [.slice (some ⟨h270.size, 0, none⟩) 1 1, .int .i64 ((np0_1 : Nat) : Int)] h278 fun (v284 : Value) (h284 : Heap) =>
          ∃ (a15_285 : Option Addr) (n15_285 c15_285 : Nat), v284 = .slice a15_285 n15_285 c15_285 ∧
          ∀ h286 : Heap, h286 = newRowH h284 ty_impl_Bank [.slice none 0 0, .slice none 0 0, .slice none 0 0, .slice none 0 0, .slice none 0 0] →
          ∃ (e287 : TypeId) (c287 : List Value), Row h286 h284.size e287 c287 ∧ 0 + 5 ≤ c287.length ∧
          ∀ h288 : Heap, h288 = putRow h286 h284.size e287 (splice c287 0 [.slice a8_271 n8_271 c8_271, .slice (some ⟨h2.size, 0, none⟩) ((IntKind.i64.wrap (((np0_1 : Nat) : Int) * ((np0_1 : Nat) : Int))).toNat) ((IntKind.i64.wrap (((np0_1 : Nat) : Int) * ((np0_1 : Nat) : Int))).toNat), .slice a15_285 n15_285 c15_285, .slice none 0 0, .slice none 0 0]) →
          K3 [.pointer (some ⟨h284.size, 0, none⟩)] h288) ∧
        (∀ h279 : Heap, h279 = newRowH h278 ty_impl_Bank [.slice none 0 0, .slice none 0 0, .slice none 0 0, .slice none 0 0, .slice none 0 0] →
          CallsH PP fn_slices_Repeat_int [.slice (some ⟨h270.size, 0, none⟩) 1 1, .int .i64 ((np0_1 : Nat) : Int)] h279 fun (v280 : Value) (h280 : Heap) =>
          ∃ (a15_281 : Option Addr) (n15_281 c15_281 : Nat), v280 = .slice a15_281 n15_281 c15_281 ∧
          ∃ (e282 : TypeId) (c282 : List Value), Row h280 h278.size e282 c282 ∧ 0 + 5 ≤ c282.length ∧
          ∀ h283 : Heap, h283 = putRow h280 h278.size e282 (splice c282 0 [.slice a8_271 n8_271 c8_271, .slice (some ⟨h2.size, 0, none⟩) ((IntKind.i64.wrap (((np0_1 : Nat) : Int) * ((np0_1 : Nat) : Int))).toNat) ((IntKind.i64.wrap (((np0_1 : Nat) : Int) * ((np0_1 : Nat) : Int))).toNat), .slice a15_281 n15_281 c15_281, .slice none 0 0, .slice none 0 0]) →
          K3 [.pointer (some ⟨h278.size, 0, none⟩)] h283))) ∧
      (∀ h272 : Heap, h272 = newRowH h270 ty_impl_Bank [.slice none 0 0, .slice none 0 0, .slice none 0 0, .slice none 0 0, .slice none 0 0] →
        ∀ h273 : Heap, h273 = newRowH h272 ty_int [.int .i64 (-1)] →
        CallsH PP fn_slices_Repeat_int [.slice (some ⟨h272.size, 0, none⟩) 1 1, .int .i64 ((np0_1 : Nat) : Int)] h273 fun (v274 : Value) (h274 : Heap) =>
        ∃ (a15_275 : Option Addr) (n15_275 c15_275 : Nat), v274 = .slice a15_275 n15_275 c15_275 ∧
        ∃ (e276 : TypeId) (c276 : List Value), Row h274 h270.size e276 c276 ∧ 0 + 5 ≤ c276.length ∧
        ∀ h277 : Heap, h277 = putRow h274 h270.size e276 (splice c276 0 [.slice a8_271 n8_271 c8_271, .slice (some ⟨h2.size, 0, none⟩) ((IntKind.i64.wrap (((np0_1 : Nat) : Int) * ((np0_1 : Nat) : Int))).toNat) ((IntKind.i64.wrap (((np0_1 : Nat) : Int) * ((np0_1 : Nat) : Int))).toNat), .slice a15_275 n15_275 c15_275, .slice none 0 0, .slice none 0 0]) →
        K3 [.pointer (some ⟨h270.size, 0, none⟩)] h277))) ∧
    ((∀ h250 : Heap, h250 = newRowH h234 ty_int [.int .i64 (-1)] →
      ((CallsH PP fn_slices_Clone_int [.slice ap0_1 np0_1 cp0_1] h250 fun (v258 : Value) (h258 : Heap) =>
        ∃ (a8_259 : Option Addr) (n8_259 c8_259 : Nat), v258 = .slice a8_259 n8_259 c8_259 ∧
        ((CallsH PP fn_slices_Repeat_int [.slice (some ⟨h234.size, 0, none⟩) 1 1, .int .i64 ((np0_1 : Nat) : Int)] h258 fun (v265 : Value) (h265 : Heap) =>
          ∃ (a15_266 : Option Addr) (n15_266 c15_266 : Nat), v265 = .slice a15_266 n15_266 c15_266 ∧
          ∀ h267 : Heap, h267 = newRowH h265 ty_impl_Bank [.slice none 0 0, .slice none 0 0, .slice none 0 0, .slice none 0 0, .slice none 0 0] →
          ∃ (e268 : TypeId) (c268 : List Value), Row h267 h265.size e268 c268 ∧ 0 + 5 ≤ c268.length ∧
          ∀ h269 : Heap, h269 = putRow h267 h265.size e268 (splice c268 0 [.slice a8_259 n8_259 c8_259, .slice (some ⟨h2.size, 0, none⟩) ((IntKind.i64.wrap (((np0_1 : Nat) : Int) * ((np0_1 : Nat) : Int))).toNat) ((IntKind.i64.wrap (((np0_1 : Nat) : Int) * ((np0_1 : Nat) : Int))).toNat), .slice a15_266 n15_266 c15_266, .slice none 0 0, .slice none 0 0]) →
          K3 [.pointer (some ⟨h265.size, 0, none⟩)] h269) ∧
        (∀ h260 : Heap, h260 = newRowH h258 ty_impl_Bank [.slice none 0 0, .slice none 0 0, .slice none 0 0, .slice none 0 0, .slice none 0 0] →
          CallsH PP fn_slices_Repeat_int [.slice (some ⟨h234.size, 0, none⟩) 1 1, .int .i64 ((np0_1 : Nat) : Int)] h260 fun (v261 : Value) (h261 : Heap) =>
          ∃ (a15_262 : Option Addr) (n15_262 c15_262 : Nat), v261 = .slice a15_262 n15_262 c15_262 ∧
          ∃ (e263 : TypeId) (c263 : List Value), Row h261 h258.size e263 c263 ∧ 0 + 5 ≤ c263.length ∧
          ∀ h264 : Heap, h264 = putRow h261 h258.size e263 (splice c263 0 [.slice a8_259 n8_259 c8_259, .slice (some ⟨h2.size, 0, none⟩) ((IntKind.i64.wrap (((np0_1 : Nat) : Int) * ((np0_1 : Nat) : Int))).toNat) ((IntKind.i64.wrap (((np0_1 : Nat) : Int) * ((np0_1 : Nat) : Int))).toNat), .slice a15_262 n15_262 c15_262, .slice none 0 0, .slice none 0 0]) →
          K3 [.pointer (some ⟨h258.size, 0, none⟩)] h264))) ∧
      (∀ h251 : Heap, h251 = newRowH h250 ty_impl_Bank [.slice none 0 0, .slice none 0 0, .slice none 0 0, .slice none 0 0, .slice none 0 0] →
        CallsH PP fn_slices_Clone_int [.slice ap0_1 np0_1 cp0_1] h251 fun (v252 : Value) (h252 : Heap) =>
        ∃ (a8_253 : Option Addr) (n8_253 c8_253 : Nat), v252 = .slice a8_253 n8_253 c8_253 ∧
        CallsH PP fn_slices_Repeat_int [.slice (some ⟨h234.size, 0, none⟩) 1 1, .int .i64 ((np0_1 : Nat) : Int)] h252 fun (v254 : Value) (h254 : Heap) =>
        ∃ (a15_255 : Option Addr) (n15_255 c15_255 : Nat), v254 = .slice a15_255 n15_255 c15_255 ∧
        ∃ (e256 : TypeId) (c256 : List Value), Row h254 h250.size e256 c256 ∧ 0 + 5 ≤ c256.length ∧
        ∀ h257 : Heap, h257 = putRow h254 h250.size e256 (splice c256 0 [.slice a8_253 n8_253 c8_253, .slice (some ⟨h2.size, 0, none⟩) ((IntKind.i64.wrap (((np0_1 : Nat) : Int) * ((np0_1 : Nat) : Int))).toNat) ((IntKind.i64.wrap (((np0_1 : Nat) : Int) * ((np0_1 : Nat) : Int))).toNat), .slice a15_255 n15_255 c15_255, .slice none 0 0, .slice none 0 0]) →
        K3 [.pointer (some ⟨h250.size, 0, none⟩)] h257))) ∧
    (∀ h235 : Heap, h235 = newRowH h234 ty_impl_Bank [.slice none 0 0, .slice none 0 0, .slice none 0 0, .slice none 0 0, .slice none 0 0] →
      ((CallsH PP fn_slices_Clone_int [.slice ap0_1 np0_1 cp0_1] h235 fun (v243 : Value) (h243 : Heap) =>
        ∃ (a8_244 : Option Addr) (n8_244 c8_244 : Nat), v243 = .slice a8_244 n8_244 c8_244 ∧
        ∀ h245 : Heap, h245 = newRowH h243 ty_int [.int .i64 (-1)] →
        CallsH PP fn_slices_Repeat_int [.slice (some ⟨h243.size, 0, none⟩) 1 1, .int .i64 ((np0_1 : Nat) : Int)] h245 fun (v246 : Value) (h246 : Heap) =>
        ∃ (a15_247 : Option Addr) (n15_247 c15_247 : Nat), v246 = .slice a15_247 n15_247 c15_247 ∧
        ∃ (e248 : TypeId) (c248 : List Value), Row h246 h234.size e248 c248 ∧ 0 + 5 ≤ c248.length ∧
        ∀ h249 : Heap, h249 = putRow h246 h234.size e248 (splice c248 0 [.slice a8_244 n8_244 c8_244, .slice (some ⟨h2.size, 0, none⟩) ((IntKind.i64.wrap (((np0_1 : Nat) : Int) * ((np0_1 : Nat) : Int))).toNat) ((IntKind.i64.wrap (((np0_1 : Nat) : Int) * ((np0_1 : Nat) : Int))).toNat), .slice a15_247 n15_247 c15_247, .slice none 0 0, .slice none 0 0]) →
        K3 [.pointer (some ⟨h234.size, 0, none⟩)] h249) ∧
      (∀ h236 : Heap, h236 = newRowH h235 ty_int [.int .i64 (-1)] →
        CallsH PP fn_slices_Clone_int [.slice ap0_1 np0_1 cp0_1] h236 fun (v237 : Value) (h237 : Heap) =>
        ∃ (a8_238 : Option Addr) (n8_238 c8_238 : Nat), v237 = .slice a8_238 n8_238 c8_238 ∧
        CallsH PP fn_slices_Repeat_int [.slice (some ⟨h235.size, 0, none⟩) 1 1, .int .i64 ((np0_1 : Nat) : Int)] h237 fun (v239 : Value) (h239 : Heap) =>
        ∃ (a15_240 : Option Addr) (n15_240 c15_240 : Nat), v239 = .slice a15_240 n15_240 c15_240 ∧
        ∃ (e241 : TypeId) (c241 : List Value), Row h239 h234.size e241 c241 ∧ 0 + 5 ≤ c241.length ∧
        ∀ h242 : Heap, h242 = putRow h239 h234.size e241 (splice c241 0 [.slice a8_238 n8_238 c8_238, .slice (some ⟨h2.size, 0, none⟩) ((IntKind.i64.wrap (((np0_1 : Nat) : Int) * ((np0_1 : Nat) : Int))).toNat) ((IntKind.i64.wrap (((np0_1 : Nat) : Int) * ((np0_1 : Nat) : Int))).toNat), .slice a15_240 n15_240 c15_240, .slice none 0 0, .slice none 0 0]) →
        K3 [.pointer (some ⟨h234.size, 0, none⟩)] h242)))))) ∧
  ((∀ h159 : Heap, h159 = newRowH h2 ty_int [.int .i64 (-1)] →
    ((CallsH PP fn_slices_Clone_int [.slice ap0_1 np0_1 cp0_1] h159 fun (v200 : Value) (h200 : Heap) =>
      ∃ (a8_201 : Option Addr) (n8_201 c8_201 : Nat), v200 = .slice a8_201 n8_201 c8_201 ∧
      ((0 ≤ IntKind.i64.wrap (((np0_1 : Nat) : Int) * ((np0_1 : Nat) : Int)) ∧ IntKind.i64.wrap (((np0_1 : Nat) : Int) * ((np0_1 : Nat) : Int)) ≤ IntKind.i64.wrap (((np0_1 : Nat) : Int) * ((np0_1 : Nat) : Int)) ∧ IntKind.i64.wrap (((np0_1 : Nat) : Int) * ((np0_1 : Nat) : Int)) ≤ 1099511627776 ∧ ((24 : Nat) : Int) * (IntKind.i64.wrap (((np0_1 : Nat) : Int) * ((np0_1 : Nat) : Int))) ≤ 281474976710656 ∧
        ∀ h223 : Heap, h223 = newRowH h200 ty_S_int (repl [.slice none 0 0] (IntKind.i64.wrap (((np0_1 : Nat) : Int) * ((np0_1 : Nat) : Int))).toNat) →
        ((CallsH PP fn_slices_Repeat_int [.slice (some ⟨h2.size, 0, none⟩) 1 1, .int .i64 ((np0_1 : Nat) : Int)] h223 fun (v229 : Value) (h229 : Heap) =>
          ∃ (a15_230 : Option Addr) (n15_230 c15_230 : Nat), v229 = .slice a15_230 n15_230 c15_230 ∧
          ∀ h231 : Heap, h231 = newRowH h229 ty_impl_Bank [.slice none 0 0, .slice none 0 0, .slice none 0 0, .slice none 0 0, .slice none 0 0] →
          ∃ (e232 : TypeId) (c232 : List Value), Row h231 h229.size e232 c232 ∧ 0 + 5 ≤ c232.length ∧
          ∀ h233 : Heap, h233 = putRow h231 h229.size e232 (splice c232 0 [.slice a8_201 n8_201 c8_201, .slice (some ⟨h200.size, 0, none⟩) ((IntKind.i64.wrap (((np0_1 : Nat) : Int) * ((np0_1 : Nat) : Int))).toNat) ((IntKind.i64.wrap (((np0_1 : Nat) : Int) * ((np0_1 : Nat) : Int))).toNat), .slice a15_230 n15_230 c15_230, .slice none 0 0, .slice none 0 0]) →
          K3 [.pointer (some ⟨h229.size, 0, none⟩)] h233) ∧
        (∀ h224 : Heap, h224 = newRowH h223 ty_impl_Bank [.slice none 0 0, .slice none 0 0, .slice none 0 0, .slice none 0 0, .slice none 0 0] →
          CallsH PP fn_slices_Repeat_int [.slice (some ⟨h2.size, 0, none⟩) 1 1, .int .i64 ((np0_1 : Nat) : Int)] h224 fun (v225 : Value) (h225 : Heap) =>
          ∃ (a15_226 : Option Addr) (n15_226 c15_226 : Nat), v225 = .slice a15_226 n15_226 c15_226 ∧
          ∃ (e227 : TypeId) (c227 : List Value), Row h225 h223.size e227 c227 ∧ 0 + 5 ≤ c227.length ∧
          ∀ h228 : Heap, h228 = putRow h225 h223.size e227 (splice c227 0 [.slice a8_201 n8_201 c8_201, .slice (some ⟨h200.size, 0, none⟩) ((IntKind.i64.wrap (((np0_1 : Nat) : Int) * ((np0_1 : Nat) : Int))).toNat) ((IntKind.i64.wrap (((np0_1 : Nat) : Int) * ((np0_1 : Nat) : Int))).toNat), .slice a15_226 n15_226 c15_226, .slice none 0 0, .slice none 0 0]) →
          K3 [.pointer (some ⟨h223.size, 0, none⟩)] h228))) ∧
      ((CallsH PP fn_slices_Repeat_int [.slice (some ⟨h2.size, 0, none⟩) 1 1, .int .i64 ((np0_1 : Nat) : Int)] h200 fun (v213 : Value) (h213 : Heap) =>
        ∃ (a15_214 : Option Addr) (n15_214 c15_214 : Nat), v213 = .slice a15_214 n15_214 c15_214 ∧
        ((0 ≤ IntKind.i64.wrap (((np0_1 : Nat) : Int) * ((np0_1 : Nat) : Int)) ∧ IntKind.i64.wrap (((np0_1 : Nat) : Int) * ((np0_1 : Nat) : Int)) ≤ IntKind.i64.wrap (((np0_1 : Nat) : Int) * ((np0_1 : Nat) : Int)) ∧ IntKind.i64.wrap (((np0_1 : Nat) : Int) * ((np0_1 : Nat) : Int)) ≤ 1099511627776 ∧ ((24 : Nat) : Int) * (IntKind.i64.wrap (((np0_1 : Nat) : Int) * ((np0_1 : Nat) : Int))) ≤ 281474976710656 ∧
          ∀ h219 : Heap, h219 = newRowH h213 ty_S_int (repl [.slice none 0 0] (IntKind.i64.wrap (((np0_1 : Nat) : Int) * ((np0_1 : Nat) : Int))).toNat) →
          ∀ h220 : Heap, h220 = newRowH h219 ty_impl_Bank [.slice none 0 0, .slice none 0 0, .slice none 0 0, .slice none 0 0, .slice none 0 0] →
          ∃ (e221 : TypeId) (c221 : List Value), Row h220 h219.size e221 c221 ∧ 0 + 5 ≤ c221.length ∧
          ∀ h222 : Heap, h222 = putRow h220 h219.size e221 (splice c221 0 [.slice a8_201 n8_201 c8_201, .slice (some ⟨h213.size, 0, none⟩) ((IntKind.i64.wrap (((np0_1 : Nat) : Int) * ((np0_1 : Nat) : Int))).toNat) ((IntKind.i64.wrap (((np0_1 : Nat) : Int) * ((np0_1 : Nat) : Int))).toNat), .slice a15_214 n15_214 c15_214, .slice none 0 0, .slice none 0 0]) →
          K3 [.pointer (some ⟨h219.size, 0, none⟩)] h222) ∧
        (∀ h215 : Heap, h215 = newRowH h213 ty_impl_Bank [.slice none 0 0, .slice none 0 0, .slice none 0 0, .slice none 0 0, .slice none 0 0] →
          0 ≤ IntKind.i64.wrap (((np0_1 : Nat) : Int) * ((np0_1 : Nat) : Int)) ∧ IntKind.i64.wrap (((np0_1 : Nat) : Int) * ((np0_1 : Nat) : Int)) ≤ IntKind.i64.wrap (((np0_1 : Nat) : Int) * ((np0_1 : Nat) : Int)) ∧ IntKind.i64.wrap (((np0_1 : Nat) : Int) * ((np0_1 : Nat) : Int)) ≤ 1099511627776 ∧ ((24 : Nat) : Int) * (IntKind.i64.wrap (((np0_1 : Nat) : Int) * ((np0_1 : Nat) : Int))) ≤ 281474976710656 ∧
          ∀ h216 : Heap, h216 = newRowH h215 ty_S_int (repl [.slice none 0 0] (IntKind.i64.wrap (((np0_1 : Nat) : Int) * ((np0_1 : Nat) : Int))).toNat) →
          ∃ (e217 : TypeId) (c217 : List Value), Row h216 h213.size e217 c217 ∧ 0 + 5 ≤ c217.length ∧
          ∀ h218 : Heap, h218 = putRow h216 h213.size e217 (splice c217 0 [.slice a8_201 n8_201 c8_201, .slice (some ⟨h215.size, 0, none⟩) ((IntKind.i64.wrap (((np0_1 : Nat) : Int) * ((np0_1 : Nat) : Int))).toNat) ((IntKind.i64.wrap (((np0_1 : Nat) : Int) * ((np0_1 : Nat) : Int))).toNat), .slice a15_214 n15_214 c15_214, .slice none 0 0, .slice none 0 0]) →
          K3 [.pointer (some ⟨h213.size, 0, none⟩)] h218))) ∧
      (∀ h202 : Heap, h202 = newRowH h200 ty_impl_Bank [.slice none 0 0, .slice none 0 0, .slice none 0 0, .slice none 0 0, .slice none 0 0] →
        ((0 ≤ IntKind.i64.wrap (((np0_1 : Nat) : Int) * ((np0_1 : Nat) : Int)) ∧ IntKind.i64.wrap (((np0_1 : Nat) : Int) * ((np0_1 : Nat) : Int)) ≤ IntKind.i64.wrap (((np0_1 : Nat) : Int) * ((np0_1 : Nat) : Int)) ∧ IntKind.i64.wrap (((np0_1 : Nat) : Int) * ((np0_1 : Nat) : Int)) ≤ 1099511627776 ∧ ((24 : Nat) : Int) * (IntKind.i64.wrap (((np0_1 : Nat) : Int) * ((np0_1 : Nat) : Int))) ≤ 281474976710656 ∧
          ∀ h208 : Heap, h208 = newRowH h202 ty_S_int (repl [.slice none 0 0] (IntKind.i64.wrap (((np0_1 : Nat) : Int) * ((np0_1 : Nat) : Int))).toNat) →
          CallsH PP fn_slices_Repeat_int [.slice (some ⟨h2.size, 0, none⟩) 1 1, .int .i64 ((np0_1 : Nat) : Int)] h208 fun (v209 : Value) (h209 : Heap) =>
          ∃ (a15_210 : Option Addr) (n15_210 c15_210 : Nat), v209 = .slice a15_210 n15_210 c15_210 ∧
          ∃ (e211 : TypeId) (c211 : List Value), Row h209 h200.size e211 c211 ∧ 0 + 5 ≤ c211.length ∧
          ∀ h212 : Heap, h212 = putRow h209 h200.size e211 (splice c211 0 [.slice a8_201 n8_201 c8_201, .slice (some ⟨h202.size, 0, none⟩) ((IntKind.i64.wrap (((np0_1 : Nat) : Int) * ((np0_1 : Nat) : Int))).toNat) ((IntKind.i64.wrap (((np0_1 : Nat) : Int) * ((np0_1 : Nat) : Int))).toNat), .slice a15_210 n15_210 c15_210, .slice none 0 0, .slice none 0 0]) →
          K3 [.pointer (some ⟨h200.size, 0, none⟩)] h212) ∧
        (CallsH PP fn_slices_Repeat_int [.slice (some ⟨h2.size, 0, none⟩) 1 1, .int .i64 ((np0_1 : Nat) : Int)] h202 fun (v203 : Value) (h203 : Heap) =>
          ∃ (a15_204 : Option Addr) (n15_204 c15_204 : Nat), v203 = .slice a15_204 n15_204 c15_204 ∧
          0 ≤ IntKind.i64.wrap (((np0_1 : Nat) : Int) * ((np0_1 : Nat) : Int)) ∧ IntKind.i64.wrap (((np0_1 : Nat) : Int) * ((np0_1 : Nat) : Int)) ≤ IntKind.i64.wrap (((np0_1 : Nat) : Int) * ((np0_1 : Nat) : Int)) ∧ IntKind.i64.wrap (((np0_1 : Nat) : Int) * ((np0_1 : Nat) : Int)) ≤ 1099511627776 ∧ ((24 : Nat) : Int) * (IntKind.i64.wrap (((np0_1 : Nat) : Int) * ((np0_1 : Nat) : Int))) ≤ 281474976710656 ∧
          ∀ h205 : Heap, h205 = newRowH h203 ty_S_int (repl [.slice none 0 0] (IntKind.i64.wrap (((np0_1 : Nat) : Int) * ((np0_1 : Nat) : Int))).toNat) →
          ∃ (e206 : TypeId) (c206 : List Value), Row h205 h200.size e206 c206 ∧ 0 + 5 ≤ c206.length ∧
          ∀ h207 : Heap, h207 = putRow h205 h200.size e206 (splice c206 0 [.slice a8_201 n8_201 c8_201, .slice (some ⟨h203.size, 0, none⟩) ((IntKind.i64.wrap (((np0_1 : Nat) : Int) * ((np0_1 : Nat) : Int))).toNat) ((IntKind.i64.wrap (((np0_1 : Nat) : Int) * ((np0_1 : Nat) : Int))).toNat), .slice a15_204 n15_204 c15_204, .slice none 0 0, .slice none 0 0]) →
          K3 [.pointer (some ⟨h200.size, 0, none⟩)] h207)))))) ∧
    ((0 ≤ IntKind.i64.wrap (((np0_1 : Nat) : Int) * ((np0_1 : Nat) : Int)) ∧ IntKind.i64.wrap (((np0_1 : Nat) : Int) * ((np0_1 : Nat) : Int)) ≤ IntKind.i64.wrap (((np0_1 : Nat) : Int) * ((np0_1 : Nat) : Int)) ∧ IntKind.i64.wrap (((np0_1 : Nat) : Int) * ((np0_1 : Nat) : Int)) ≤ 1099511627776 ∧ ((24 : Nat) : Int) * (IntKind.i64.wrap (((np0_1 : Nat) : Int) * ((np0_1 : Nat) : Int))) ≤ 281474976710656 ∧
      ∀ h180 : Heap, h180 = newRowH h159 ty_S_int (repl [.slice none 0 0] (IntKind.i64.wrap (((np0_1 : Nat) : Int) * ((np0_1 : Nat) : Int))).toNat) →
      ((CallsH PP fn_slices_Clone_int [.slice ap0_1 np0_1 cp0_1] h180 fun (v188 : Value) (h188 : Heap) =>
        ∃ (a8_189 : Option Addr) (n8_189 c8_189 : Nat), v188 = .slice a8_189 n8_189 c8_189 ∧
        ((CallsH PP fn_slices_Repeat_int [.slice (some ⟨h2.size, 0, none⟩) 1 1, .int .i64 ((np0_1 : Nat) : Int)] h188 fun (v195 : Value) (h195 : Heap) =>
          ∃ (a15_196 : Option Addr) (n15_196 c15_196 : Nat), v195 = .slice a15_196 n15_196 c15_196 ∧
          ∀ h197 : Heap, h197 = newRowH h195 ty_impl_Bank [.slice none 0 0, .slice none 0 0, .slice none 0 0, .slice none 0 0, .slice none 0 0] →
          ∃ (e198 : TypeId) (c198 : List Value), Row h197 h195.size e198 c198 ∧ 0 + 5 ≤ c198.length ∧
          ∀ h199 : Heap, h199 = putRow h197 h195.size e198 (splice c198 0 [.slice a8_189 n8_189 c8_189, .slice (some ⟨h159.size, 0, none⟩) ((IntKind.i64.wrap (((np0_1 : Nat) : Int) * ((np0_1 : Nat) : Int))).toNat) ((IntKind.i64.wrap (((np0_1 : Nat) : Int) * ((np0_1 : Nat) : Int))).toNat), .slice a15_196 n15_196 c15_196, .slice none 0 0, .slice none 0 0]) →
          K3 [.pointer (some ⟨h195.size, 0, none⟩)] h199) ∧
        (∀ h190 : Heap, h190 = newRowH h188 ty_impl_Bank [.slice none 0 0, .slice none 0 0, .slice none 0 0, .slice none 0 0, .slice none 0 0] →
          CallsH PP fn_slices_Repeat_int [.slice (some ⟨h2.size, 0, none⟩) 1 1, .int .i64 ((np0_1 : Nat) : Int)] h190 fun (v191 : Value) (h191 : Heap) =>
          ∃ (a15_192 : Option Addr) (n15_192 c15_192 : Nat), v191 = .slice a15_192 n15_192 c15_192 ∧
          ∃ (e193 : TypeId) (c193 : List Value), Row h191 h188.size e193 c193 ∧ 0 + 5 ≤ c193.length ∧
          ∀ h194 : Heap, h194 = putRow h191 h188.size e193 (splice c193 0 [.slice a8_189 n8_189 c8_189, .slice (some ⟨h159.size, 0, none⟩) ((IntKind.i64.wrap (((np0_1 : Nat) : Int) * ((np0_1 : Nat) : Int))).toNat) ((IntKind.i64.wrap (((np0_1 : Nat) : Int) * ((np0_1 : Nat) : Int))).toNat), .slice a15_192 n15_192 c15_192, .slice none 0 0, .slice none 0 0]) →
          K3 [.pointer (some ⟨h188.size, 0, none⟩)] h194))) ∧
      (∀ h181 : Heap, h181 = newRowH h180 ty_impl_Bank [.slice none 0 0, .slice none 0 0, .slice none 0 0, .slice none 0 0, .slice none 0 0] →
        CallsH PP fn_slices_Clone_int [.slice ap0_1 np0_1 cp0_1] h181 fun (v182 : Value) (h182 : Heap) =>
        ∃ (a8_183 : Option Addr) (n8_183 c8_183 : Nat), v182 = .slice a8_183 n8_183 c8_183 ∧
        CallsH PP fn_slices_Repeat_int [.slice (some ⟨h2.size, 0, none⟩) 1 1, .int .i64 ((np0_1 : Nat) : Int)] h182 fun (v184 : Value) (h184 : Heap) =>
        ∃ (a15_185 : Option Addr) (n15_185 c15_185 : Nat), v184 = .slice a15_185 n15_185 c15_185 ∧
        ∃ (e186 : TypeId) (c186 : List Value), Row h184 h180.size e186 c186 ∧ 0 + 5 ≤ c186.length ∧
        ∀ h187 : Heap, h187 = putRow h184 h180.size e186 (splice c186 0 [.slice a8_183 n8_183 c8_183, .slice (some ⟨h159.size, 0, none⟩) ((IntKind.i64.wrap (((np0_1 : Nat) : Int) * ((np0_1 : Nat) : Int))).toNat) ((IntKind.i64.wrap (((np0_1 : Nat) : Int) * ((np0_1 : Nat) : Int))).toNat), .slice a15_185 n15_185 c15_185, .slice none 0 0, .slice none 0 0]) →
        K3 [.pointer (some ⟨h180.size, 0, none⟩)] h187))) ∧
    (∀ h160 : Heap, h160 = newRowH h159 ty_impl_Bank [.slice none 0 0, .slice none 0 0, .slice none 0 0, .slice none 0 0, .slice none 0 0] →
      ((CallsH PP fn_slices_Clone_int [.slice ap0_1 np0_1 cp0_1] h160 fun (v168 : Value) (h168 : Heap) =>
        ∃ (a8_169 : Option Addr) (n8_169 c8_169 : Nat), v168 = .slice a8_169 n8_169 c8_169 ∧
        ((0 ≤ IntKind.i64.wrap (((np0_1 : Nat) : Int) * ((np0_1 : Nat) : Int)) ∧ IntKind.i64.wrap (((np0_1 : Nat) : Int) * ((np0_1 : Nat) : Int)) ≤ IntKind.i64.wrap (((np0_1 : Nat) : Int) * ((np0_1 : Nat) : Int)) ∧ IntKind.i64.wrap (((np0_1 : Nat) : Int) * ((np0_1 : Nat) : Int)) ≤ 1099511627776 ∧ ((24 : Nat) : Int) * (IntKind.i64.wrap (((np0_1 : Nat) : Int) * ((np0_1 : Nat) : Int))) ≤ 281474976710656 ∧
          ∀ h175 : Heap, h175 = newRowH h168 ty_S_int (repl [.slice none 0 0] (IntKind.i64.wrap (((np0_1 : Nat) : Int) * ((np0_1 : Nat) : Int))).toNat) →
          CallsH PP fn_slices_Repeat_int [.slice (some ⟨h2.size, 0, none⟩) 1 1, .int .i64 ((np0_1 : Nat) : Int)] h175 fun (v176 : Value) (h176 : Heap) =>
          ∃ (a15_177 : Option Addr) (n15_177 c15_177 : Nat), v176 = .slice a15_177 n15_177 c15_177 ∧
          ∃ (e178 : TypeId) (c178 : List Value), Row h176 h159.size e178 c178 ∧ 0 + 5 ≤ c178.length ∧
          ∀ h179 : Heap, h179 = putRow h176 h159.size e178 (splice c178 0 [.slice a8_169 n8_169 c8_169, .slice (some ⟨h168.size, 0, none⟩) ((IntKind.i64.wrap (((np0_1 : Nat) : Int) * ((np0_1 : Nat) : Int))).toNat) ((IntKind.i64.wrap (((np0_1 : Nat) : Int) * ((np0_1 : Nat) : Int))).toNat), .slice a15_177 n15_177 c15_177, .slice none 0 0, .slice none 0 0]) →
          K3 [.pointer (some ⟨h159.size, 0, none⟩)] h179) ∧
        (CallsH PP fn_slices_Repeat_int [.slice (some ⟨h2.size, 0, none⟩) 1 1, .int .i64 ((np0_1 : Nat) : Int)] h168 fun (v170 : Value) (h170 : Heap) =>
          ∃ (a15_171 : Option Addr) (n15_171 c15_171 : Nat), v170 = .slice a15_171 n15_171 c15_171 ∧
          0 ≤ IntKind.i64.wrap (((np0_1 : Nat) : Int) * ((np0_1 : Nat) : Int)) ∧ IntKind.i64.wrap (((np0_1 : Nat) : Int) * ((np0_1 : Nat) : Int)) ≤ IntKind.i64.wrap (((np0_1 : Nat) : Int) * ((np0_1 : Nat) : Int)) ∧ IntKind.i64.wrap (((np0_1 : Nat) : Int) * ((np0_1 : Nat) : Int)) ≤ 1099511627776 ∧ ((24 : Nat) : Int) * (IntKind.i64.wrap (((np0_1 : Nat) : Int) * ((np0_1 : Nat) : Int))) ≤ 281474976710656 ∧
          ∀ h172 : Heap, h172 = newRowH h170 ty_S_int (repl [.slice none 0 0] (IntKind.i64.wrap (((np0_1 : Nat) : Int) * ((np0_1 : Nat) : Int))).toNat) →
          ∃ (e173 : TypeId) (c173 : List Value), Row h172 h159.size e173 c173 ∧ 0 + 5 ≤ c173.length ∧
          ∀ h174 : Heap, h174 = putRow h172 h159.size e173 (splice c173 0 [.slice a8_169 n8_169 c8_169, .slice (some ⟨h170.size, 0, none⟩) ((IntKind.i64.wrap (((np0_1 : Nat) : Int) * ((np0_1 : Nat) : Int))).toNat) ((IntKind.i64.wrap (((np0_1 : Nat) : Int) * ((np0_1 : Nat) : Int))).toNat), .slice a15_171 n15_171 c15_171, .slice none 0 0, .slice none 0 0]) →
          K3 [.pointer (some ⟨h159.size, 0, none⟩)] h174))) ∧
      (0 ≤ IntKind.i64.wrap (((np0_1 : Nat) : Int) * ((np0_1 : Nat) : Int)) ∧ IntKind.i64.wrap (((np0_1 : Nat) : Int) * ((np0_1 : Nat) : Int)) ≤ IntKind.i64.wrap (((np0_1 : Nat) : Int) * ((np0_1 : Nat) : Int)) ∧ IntKind.i64.wrap (((np0_1 : Nat) : Int) * ((np0_1 : Nat) : Int)) ≤ 1099511627776 ∧ ((24 : Nat) : Int) * (IntKind.i64.wrap (((np0_1 : Nat) : Int) * ((np0_1 : Nat) : Int))) ≤ 281474976710656 ∧
        ∀ h161 : Heap, h161 = newRowH h160 ty_S_int (repl [.slice none 0 0] (IntKind.i64.wrap (((np0_1 : Nat) : Int) * ((np0_1 : Nat) : Int))).toNat) →
        CallsH PP fn_slices_Clone_int [.slice ap0_1 np0_1 cp0_1] h161 fun (v162 : Value) (h162 : Heap) =>
        ∃ (a8_163 : Option Addr) (n8_163 c8_163 : Nat), v162 = .slice a8_163 n8_163 c8_163 ∧
        CallsH PP fn_slices_Repeat_int [.slice (some ⟨h2.size, 0, none⟩) 1 1, .int .i64 ((np0_1 : Nat) : Int)] h162 fun (v164 : Value) (h164 : Heap) =>
        ∃ (a15_165 : Option Addr) (n15_165 c15_165 : Nat), v164 = .slice a15_165 n15_165 c15_165 ∧
        ∃ (e166 : TypeId) (c166 : List Value), Row h164 h159.size e166 c166 ∧ 0 + 5 ≤ c166.length ∧
        ∀ h167 : Heap, h167 = putRow h164 h159.size e166 (splice c166 0 [.slice a8_163 n8_163 c8_163, .slice (some ⟨h160.size, 0, none⟩) ((IntKind.i64.wrap (((np0_1 : Nat) : Int) * ((np0_1 : Nat) : Int))).toNat) ((IntKind.i64.wrap (((np0_1 : Nat) : Int) * ((np0_1 : Nat) : Int))).toNat), .slice a15_165 n15_165 c15_165, .slice none 0 0, .slice none 0 0]) →
        K3 [.pointer (some ⟨h159.size, 0, none⟩)] h167)))))) ∧
  (∀ h104 : Heap, h104 = newRowH h2 ty_impl_Bank [.slice none 0 0, .slice none 0 0, .slice none 0 0, .slice none 0 0, .slice none 0 0] →
    ((CallsH PP fn_slices_Clone_int [.slice ap0_1 np0_1 cp0_1] h104 fun (v140 : Value) (h140 : Heap) =>
      ∃ (a8_141 : Option Addr) (n8_141 c8_141 : Nat), v140 = .slice a8_141 n8_141 c8_141 ∧
      ((0 ≤ IntKind.i64.wrap (((np0_1 : Nat) : Int) * ((np0_1 : Nat) : Int)) ∧ IntKind.i64.wrap (((np0_1 : Nat) : Int) * ((np0_1 : Nat) : Int)) ≤ IntKind.i64.wrap (((np0_1 : Nat) : Int) * ((np0_1 : Nat) : Int)) ∧ IntKind.i64.wrap (((np0_1 : Nat) : Int) * ((np0_1 : Nat) : Int)) ≤ 1099511627776 ∧ ((24 : Nat) : Int) * (IntKind.i64.wrap (((np0_1 : Nat) : Int) * ((np0_1 : Nat) : Int))) ≤ 281474976710656 ∧
        ∀ h153 : Heap, h153 = newRowH h140 ty_S_int (repl [.slice none 0 0] (IntKind.i64.wrap (((np0_1 : Nat) : Int) * ((np0_1 : Nat) : Int))).toNat) →
        ∀ h154 : Heap, h154 = newRowH h153 ty_int [.int .i64 (-1)] →
        CallsH PP fn_slices_Repeat_int [.slice (some ⟨h153.size, 0, none⟩) 1 1, .int .i64 ((np0_1 : Nat) : Int)] h154 fun (v155 : Value) (h155 : Heap) =>
        ∃ (a15_156 : Option Addr) (n15_156 c15_156 : Nat), v155 = .slice a15_156 n15_156 c15_156 ∧
        ∃ (e157 : TypeId) (c157 : List Value), Row h155 h2.size e157 c157 ∧ 0 + 5 ≤ c157.length ∧
        ∀ h158 : Heap, h158 = putRow h155 h2.size e157 (splice c157 0 [.slice a8_141 n8_141 c8_141, .slice (some ⟨h140.size, 0, none⟩) ((IntKind.i64.wrap (((np0_1 : Nat) : Int) * ((np0_1 : Nat) : Int))).toNat) ((IntKind.i64.wrap (((np0_1 : Nat) : Int) * ((np0_1 : Nat) : Int))).toNat), .slice a15_156 n15_156 c15_156, .slice none 0 0, .slice none 0 0]) →
        K3 [.pointer (some ⟨h2.size, 0, none⟩)] h158) ∧
      (∀ h142 : Heap, h142 = newRowH h140 ty_int [.int .i64 (-1)] →
        ((0 ≤ IntKind.i64.wrap (((np0_1 : Nat) : Int) * ((np0_1 : Nat) : Int)) ∧ IntKind.i64.wrap (((np0_1 : Nat) : Int) * ((np0_1 : Nat) : Int)) ≤ IntKind.i64.wrap (((np0_1 : Nat) : Int) * ((np0_1 : Nat) : Int)) ∧ IntKind.i64.wrap (((np0_1 : Nat) : Int) * ((np0_1 : Nat) : Int)) ≤ 1099511627776 ∧ ((24 : Nat) : Int) * (IntKind.i64.wrap (((np0_1 : Nat) : Int) * ((np0_1 : Nat) : Int))) ≤ 281474976710656 ∧
          ∀ h148 : Heap, h148 = newRowH h142 ty_S_int (repl [.slice none 0 0] (IntKind.i64.wrap (((np0_1 : Nat) : Int) * ((np0_1 : Nat) : Int))).toNat) →
          CallsH PP fn_slices_Repeat_int [.slice (some ⟨h140.size, 0, none⟩) 1 1, .int .i64 ((np0_1 : Nat) : Int)] h148 fun (v149 : Value) (h149 : Heap) =>
          ∃ (a15_150 : Option Addr) (n15_150 c15_150 : Nat), v149 = .slice a15_150 n15_150 c15_150 ∧
          ∃ (e151 : TypeId) (c151 : List Value), Row h149 h2.size e151 c151 ∧ 0 + 5 ≤ c151.length ∧
          ∀ h152 : Heap, h152 = putRow h149 h2.size e151 (splice c151 0 [.slice a8_141 n8_141 c8_141, .slice (some ⟨h142.size, 0, none⟩) ((IntKind.i64.wrap (((np0_1 : Nat) : Int) * ((np0_1 : Nat) : Int))).toNat) ((IntKind.i64.wrap (((np0_1 : Nat) : Int) * ((np0_1 : Nat) : Int))).toNat), .slice a15_150 n15_150 c15_150, .slice none 0 0, .slice none 0 0]) →
          K3 [.pointer (some ⟨h2.size, 0, none⟩)] h152) ∧
        (CallsH PP fn_slices_Repeat_int [.slice (some ⟨h140.size, 0, none⟩) 1 1, .int .i64 ((np0_1 : Nat) : Int)] h142 fun (v143 : Value) (h143 : Heap) =>
          ∃ (a15_144 : Option Addr) (n15_144 c15_144 : Nat), v143 = .slice a15_144 n15_144 c15_144 ∧
          0 ≤ IntKind.i64.wrap (((np0_1 : Nat) : Int) * ((np0_1 : Nat) : Int)) ∧ IntKind.i64.wrap (((np0_1 : Nat) : Int) * ((np0_1 : Nat) : Int)) ≤ IntKind.i64.wrap (((np0_1 : Nat) : Int) * ((np0_1 : Nat) : Int)) ∧ IntKind.i64.wrap (((np0_1 : Nat) : Int) * ((np0_1 : Nat) : Int)) ≤ 1099511627776 ∧ ((24 : Nat) : Int) * (IntKind.i64.wrap (((np0_1 : Nat) : Int) * ((np0_1 : Nat) : Int))) ≤ 281474976710656 ∧
          ∀ h145 : Heap, h145 = newRowH h143 ty_S_int (repl [.slice none 0 0] (IntKind.i64.wrap (((np0_1 : Nat) : Int) * ((np0_1 : Nat) : Int))).toNat) →
          ∃ (e146 : TypeId) (c146 : List Value), Row h145 h2.size e146 c146 ∧ 0 + 5 ≤ c146.length ∧
          ∀ h147 : Heap, h147 = putRow h145 h2.size e146 (splice c146 0 [.slice a8_141 n8_141 c8_141, .slice (some ⟨h143.size, 0, none⟩) ((IntKind.i64.wrap (((np0_1 : Nat) : Int) * ((np0_1 : Nat) : Int))).toNat) ((IntKind.i64.wrap (((np0_1 : Nat) : Int) * ((np0_1 : Nat) : Int))).toNat), .slice a15_144 n15_144 c15_144, .slice none 0 0, .slice none 0 0]) →
          K3 [.pointer (some ⟨h2.size, 0, none⟩)] h147))))) ∧
    ((0 ≤ IntKind.i64.wrap (((np0_1 : Nat) : Int) * ((np0_1 : Nat) : Int)) ∧ IntKind.i64.wrap (((np0_1 : Nat) : Int) * ((np0_1 : Nat) : Int)) ≤ IntKind.i64.wrap (((np0_1 : Nat) : Int) * ((np0_1 : Nat) : Int)) ∧ IntKind.i64.wrap (((np0_1 : Nat) : Int) * ((np0_1 : Nat) : Int)) ≤ 1099511627776 ∧ ((24 : Nat) : Int) * (IntKind.i64.wrap (((np0_1 : Nat) : Int) * ((np0_1 : Nat) : Int))) ≤ 281474976710656 ∧
      ∀ h125 : Heap, h125 = newRowH h104 ty_S_int (repl [.slice none 0 0] (IntKind.i64.wrap (((np0_1 : Nat) : Int) * ((np0_1 : Nat) : Int))).toNat) →
      ((CallsH PP fn_slices_Clone_int [.slice ap0_1 np0_1 cp0_1] h125 fun (v133 : Value) (h133 : Heap) =>
        ∃ (a8_134 : Option Addr) (n8_134 c8_134 : Nat), v133 = .slice a8_134 n8_134 c8_134 ∧
        ∀ h135 : Heap, h135 = newRowH h133 ty_int [.int .i64 (-1)] →
        CallsH PP fn_slices_Repeat_int [.slice (some ⟨h133.size, 0, none⟩) 1 1, .int .i64 ((np0_1 : Nat) : Int)] h135 fun (v136 : Value) (h136 : Heap) =>
        ∃ (a15_137 : Option Addr) (n15_137 c15_137 : Nat), v136 = .slice a15_137 n15_137 c15_137 ∧
        ∃ (e138 : TypeId) (c138 : List Value), Row h136 h2.size e138 c138 ∧ 0 + 5 ≤ c138.length ∧
        ∀ h139 : Heap, h139 = putRow h136 h2.size e138 (splice c138 0 [.slice a8_134 n8_134 c8_134, .slice (some ⟨h104.size, 0, none⟩) ((IntKind.i64.wrap (((np0_1 : Nat) : Int) * ((np0_1 : Nat) : Int))).toNat) ((IntKind.i64.wrap (((np0_1 : Nat) : Int) * ((np0_1 : Nat) : Int))).toNat), .slice a15_137 n15_137 c15_137, .slice none 0 0, .slice none 0 0]) →
        K3 [.pointer (some ⟨h2.size, 0, none⟩)] h139) ∧
      (∀ h126 : Heap, h126 = newRowH h125 ty_int [.int .i64 (-1)] →
        CallsH PP fn_slices_Clone_int [.slice ap0_1 np0_1 cp0_1] h126 fun (v127 : Value) (h127 : Heap) =>
        ∃ (a8_128 : Option Addr) (n8_128 c8_128 : Nat), v127 = .slice a8_128 n8_128 c8_128 ∧
        CallsH PP fn_slices_Repeat_int [.slice (some ⟨h125.size, 0, none⟩) 1 1, .int .i64 ((np0_1 : Nat) : Int)] h127 fun (v129 : Value) (h129 : Heap) =>
        ∃ (a15_130 : Option Addr) (n15_130 c15_130 : Nat), v129 = .slice a15_130 n15_130 c15_130 ∧
        ∃ (e131 : TypeId) (c131 : List Value), Row h129 h2.size e131 c131 ∧ 0 + 5 ≤ c131.length ∧
        ∀ h132 : Heap, h132 = putRow h129 h2.size e131 (splice c131 0 [.slice a8_128 n8_128 c8_128, .slice (some ⟨h104.size, 0, none⟩) ((IntKind.i64.wrap (((np0_1 : Nat) : Int) * ((np0_1 : Nat) : Int))).toNat) ((IntKind.i64.wrap (((np0_1 : Nat) : Int) * ((np0_1 : Nat) : Int))).toNat), .slice a15_130 n15_130 c15_130, .slice none 0 0, .slice none 0 0]) →
        K3 [.pointer (some ⟨h2.size, 0, none⟩)] h132))) ∧
    (∀ h105 : Heap, h105 = newRowH h104 ty_int [.int .i64 (-1)] →
      ((CallsH PP fn_slices_Clone_int [.slice ap0_1 np0_1 cp0_1] h105 fun (v113 : Value) (h113 : Heap) =>
        ∃ (a8_114 : Option Addr) (n8_114 c8_114 : Nat), v113 = .slice a8_114 n8_114 c8_114 ∧
        ((0 ≤ IntKind.i64.wrap (((np0_1 : Nat) : Int) * ((np0_1 : Nat) : Int)) ∧ IntKind.i64.wrap (((np0_1 : Nat) : Int) * ((np0_1 : Nat) : Int)) ≤ IntKind.i64.wrap (((np0_1 : Nat) : Int) * ((np0_1 : Nat) : Int)) ∧ IntKind.i64.wrap (((np0_1 : Nat) : Int) * ((np0_1 : Nat) : Int)) ≤ 1099511627776 ∧ ((24 : Nat) : Int) * (IntKind.i64.wrap (((np0_1 : Nat) : Int) * ((np0_1 : Nat) : Int))) ≤ 281474976710656 ∧
          ∀ h120 : Heap, h120 = newRowH h113 ty_S_int (repl [.slice none 0 0] (IntKind.i64.wrap (((np0_1 : Nat) : Int) * ((np0_1 : Nat) : Int))).toNat) →
          CallsH PP fn_slices_Repeat_int [.slice (some ⟨h104.size, 0, none⟩) 1 1, .int .i64 ((np0_1 : Nat) : Int)] h120 fun (v121 : Value) (h121 : Heap) =>
          ∃ (a15_122 : Option Addr) (n15_122 c15_122 : Nat), v121 = .slice a15_122 n15_122 c15_122 ∧
          ∃ (e123 : TypeId) (c123 : List Value), Row h121 h2.size e123 c123 ∧ 0 + 5 ≤ c123.length ∧
          ∀ h124 : Heap, h124 = putRow h121 h2.size e123 (splice c123 0 [.slice a8_114 n8_114 c8_114, .slice (some ⟨h113.size, 0, none⟩) ((IntKind.i64.wrap (((np0_1 : Nat) : Int) * ((np0_1 : Nat) : Int))).toNat) ((IntKind.i64.wrap (((np0_1 : Nat) : Int) * ((np0_1 : Nat) : Int))).toNat), .slice a15_122 n15_122 c15_122, .slice none 0 0, .slice none 0 0]) →
          K3 [.pointer (some ⟨h2.size, 0, none⟩)] h124) ∧
        (CallsH PP fn_slices_Repeat_int [.slice (some ⟨h104.size, 0, none⟩) 1 1, .int .i64 ((np0_1 : Nat) : Int)] h113 fun (v115 : Value) (h115 : Heap) =>
          ∃ (a15_116 : Option Addr) (n15_116 c15_116 : Nat), v115 = .slice a15_116 n15_116 c15_116 ∧
          0 ≤ IntKind.i64.wrap (((np0_1 : Nat) : Int) * ((np0_1 : Nat) : Int)) ∧ IntKind.i64.wrap (((np0_1 : Nat) : Int) * ((np0_1 : Nat) : Int)) ≤ IntKind.i64.wrap (((np0_1 : Nat) : Int) * ((np0_1 : Nat) : Int)) ∧ IntKind.i64.wrap (((np0_1 : Nat) : Int) * ((np0_1 : Nat) : Int)) ≤ 1099511627776 ∧ ((24 : Nat) : Int) * (IntKind.i64.wrap (((np0_1 : Nat) : Int) * ((np0_1 : Nat) : Int))) ≤ 281474976710656 ∧
          ∀ h117 : Heap, h117 = newRowH h115 ty_S_int (repl [.slice none 0 0] (IntKind.i64.wrap (((np0_1 : Nat) : Int) * ((np0_1 : Nat) : Int))).toNat) →
          ∃ (e118 : TypeId) (c118 : List Value), Row h117 h2.size e118 c118 ∧ 0 + 5 ≤ c118.length ∧
          ∀ h119 : Heap, h119 = putRow h117 h2.size e118 (splice c118 0 [.slice a8_114 n8_114 c8_114, .slice (some ⟨h115.size, 0, none⟩) ((IntKind.i64.wrap (((np0_1 : Nat) : Int) * ((np0_1 : Nat) : Int))).toNat) ((IntKind.i64.wrap (((np0_1 : Nat) : Int) * ((np0_1 : Nat) : Int))).toNat), .slice a15_116 n15_116 c15_116, .slice none 0 0, .slice none 0 0]) →
          K3 [.pointer (some ⟨h2.size, 0, none⟩)] h119))) ∧
      (0 ≤ IntKind.i64.wrap (((np0_1 : Nat) : Int) * ((np0_1 : Nat) : Int)) ∧ IntKind.i64.wrap (((np0_1 : Nat) : Int) * ((np0_1 : Nat) : Int)) ≤ IntKind.i64.wrap (((np0_1 : Nat) : Int) * ((np0_1 : Nat) : Int)) ∧ IntKind.i64.wrap (((np0_1 : Nat) : Int) * ((np0_1 : Nat) : Int)) ≤ 1099511627776 ∧ ((24 : Nat) : Int) * (IntKind.i64.wrap (((np0_1 : Nat) : Int) * ((np0_1 : Nat) : Int))) ≤ 281474976710656 ∧
        ∀ h106 : Heap, h106 = newRowH h105 ty_S_int (repl [.slice none 0 0] (IntKind.i64.wrap (((np0_1 : Nat) : Int) * ((np0_1 : Nat) : Int))).toNat) →
        CallsH PP fn_slices_Clone_int [.slice ap0_1 np0_1 cp0_1] h106 fun (v107 : Value) (h107 : Heap) =>
        ∃ (a8_108 : Option Addr) (n8_108 c8_108 : Nat), v107 = .slice a8_108 n8_108 c8_108 ∧
        CallsH PP fn_slices_Repeat_int [.slice (some ⟨h104.size, 0, none⟩) 1 1, .int .i64 ((np0_1 : Nat) : Int)] h107 fun (v109 : Value) (h109 : Heap) =>
        ∃ (a15_110 : Option Addr) (n15_110 c15_110 : Nat), v109 = .slice a15_110 n15_110 c15_110 ∧
        ∃ (e111 : TypeId) (c111 : List Value), Row h109 h2.size e111 c111 ∧ 0 + 5 ≤ c111.length ∧
        ∀ h112 : Heap, h112 = putRow h109 h2.size e111 (splice c111 0 [.slice a8_108 n8_108 c8_108, .slice (some ⟨h105.size, 0, none⟩) ((IntKind.i64.wrap (((np0_1 : Nat) : Int) * ((np0_1 : Nat) : Int))).toNat) ((IntKind.i64.wrap (((np0_1 : Nat) : Int) * ((np0_1 : Nat) : Int))).toNat), .slice a15_110 n15_110 c15_110, .slice none 0 0, .slice none 0 0]) →
        K3 [.pointer (some ⟨h2.size, 0, none⟩)] h112)))))))))
def plan_impl_newBank : Plan := .seq none (.leaf) (.seq none (.leaf) (.seq (some [(4, .l (.ptrN))]) (.draw (.op 0 (.op 2 (.op 3 (.op 4 (.op 7 (.fork (.op 1 (.fork (.op 5 (.fork (.op 6 (.fork (.op 8 (.op 9 (.op 10 (.op 11 .done)))) (.op 10 (.op 8 (.op 9 (.op 11 .done)))))) (.op 10 (.op 6 (.op 8 (.op 9 (.op 11 .done))))))) (.fork (.op 6 (.fork (.op 5 (.fork (.op 8 (.op 9 (.op 10 (.op 11 .done)))) (.op 10 (.op 8 (.op 9 (.op 11 .done)))))) (.fork (.op 8 (.fork (.op 5 (.op 9 (.op 10 (.op 11 .done)))) (.op 10 (.op 5 (.op 9 (.op 11 .done)))))) (.op 10 (.fork (.op 5 (.op 8 (.op 9 (.op 11 .done)))) (.op 8 (.op 5 (.op 9 (.op 11 .done))))))))) (.op 10 (.fork (.op 5 (.op 6 (.op 8 (.op 9 (.op 11 .done))))) (.op 6 (.fork (.op 5 (.op 8 (.op 9 (.op 11 .done)))) (.op 8 (.op 5 (.op 9 (.op 11 .done))))))))))) (.fork (.op 5 (.fork (.op 1 (.fork (.op 6 (.fork (.op 8 (.op 9 (.op 10 (.op 11 .done)))) (.op 10 (.op 8 (.op 9 (.op 11 .done)))))) (.op 10 (.op 6 (.op 8 (.op 9 (.op 11 .done))))))) (.fork (.op 6 (.fork (.op 1 (.fork (.op 8 (.op 9 (.op 10 (.op 11 .done)))) (.op 10 (.op 8 (.op 9 (.op 11 .done)))))) (.op 10 (.op 1 (.op 8 (.op 9 (.op 11 .done))))))) (.op 10 (.fork (.op 1 (.op 6 (.op 8 (.op 9 (.op 11 .done))))) (.op 6 (.op 1 (.op 8 (.op 9 (.op 11 .done)))))))))) (.fork (.op 6 (.fork (.op 1 (.fork (.op 5 (.fork (.op 8 (.op 9 (.op 10 (.op 11 .done)))) (.op 10 (.op 8 (.op 9 (.op 11 .done)))))) (.fork (.op 8 (.fork (.op 5 (.op 9 (.op 10 (.op 11 .done)))) (.op 10 (.op 5 (.op 9 (.op 11 .done)))))) (.op 10 (.fork (.op 5 (.op 8 (.op 9 (.op 11 .done)))) (.op 8 (.op 5 (.op 9 (.op 11 .done))))))))) (.fork (.op 5 (.fork (.op 1 (.fork (.op 8 (.op 9 (.op 10 (.op 11 .done)))) (.op 10 (.op 8 (.op 9 (.op 11 .done)))))) (.op 10 (.op 1 (.op 8 (.op 9 (.op 11 .done))))))) (.op 10 (.fork (.op 1 (.fork (.op 5 (.op 8 (.op 9 (.op 11 .done)))) (.op 8 (.op 5 (.op 9 (.op 11 .done)))))) (.op 5 (.op 1 (.op 8 (.op 9 (.op 11 .done)))))))))) (.op 10 (.fork (.op 1 (.fork (.op 5 (.op 6 (.op 8 (.op 9 (.op 11 .done))))) (.op 6 (.fork (.op 5 (.op 8 (.op 9 (.op 11 .done)))) (.op 8 (.op 5 (.op 9 (.op 11 .done)))))))) (.fork (.op 5 (.fork (.op 1 (.op 6 (.op 8 (.op 9 (.op 11 .done))))) (.op 6 (.op 1 (.op 8 (.op 9 (.op 11 .done))))))) (.op 6 (.fork (.op 1 (.fork (.op 5 (.op 8 (.op 9 (.op 11 .done)))) (.op 8 (.op 5 (.op 9 (.op 11 .done)))))) (.op 5 (.op 1 (.op 8 (.op 9 (.op 11 .done))))))))))))))))))) (.seq none (.seq none (.leaf) (.block (.loop [(18, .l (.int .i64))] (.seq none (.leaf) (.seq none (.cond (.leaf) (.leaf)) (.seq none (.block (.draw (.op 0 (.op 1 (.op 2 (.op 6 (.op 7 (.op 8 (.fork (.op 3 (.fork (.op 4 (.fork (.op 5 (.op 12 (.op 9 (.op 10 (.op 11 (.op 13 (.op 14 (.op 15 .done)))))))) (.op 9 (.fork (.op 5 (.op 12 (.op 10 (.op 11 (.op 13 (.op 14 (.op 15 .done))))))) (.op 10 (.op 5 (.op 12 (.op 11 (.op 13 (.op 14 (.op 15 .done))))))))))) (.op 9 (.fork (.op 4 (.fork (.op 5 (.op 12 (.op 10 (.op 11 (.op 13 (.op 14 (.op 15 .done))))))) (.op 10 (.op 5 (.op 12 (.op 11 (.op 13 (.op 14 (.op 15 .done))))))))) (.op 10 (.op 4 (.op 5 (.op 12 (.op 11 (.op 13 (.op 14 (.op 15 .done)))))))))))) (.op 9 (.fork (.op 3 (.fork (.op 4 (.fork (.op 5 (.op 12 (.op 10 (.op 11 (.op 13 (.op 14 (.op 15 .done))))))) (.op 10 (.op 5 (.op 12 (.op 11 (.op 13 (.op 14 (.op 15 .done))))))))) (.op 10 (.op 4 (.op 5 (.op 12 (.op 11 (.op 13 (.op 14 (.op 15 .done)))))))))) (.op 10 (.op 3 (.op 4 (.op 5 (.op 12 (.op 11 (.op 13 (.op 14 (.op 15 .done)))))))))))))))))))) (.leaf))))))) (.seq none (.leaf) (.leaf)))))
theorem tie_impl_newBank : (fun (ap0_1 : Option Addr) (np0_1 cp0_1 : Nat) (h : Heap) (R : Value → Heap → Prop) => denF X0 Try.f86 (bodyOf Try.f86) plan_impl_newBank [.l (.sl ap0_1 np0_1 cp0_1)] h R) = M_impl_newBank := by kernel_rfl
theorem calls_impl_newBank (ap0_1 : Option Addr) (np0_1 cp0_1 : Nat) {h : Heap} {R : Value → Heap → Prop} (hm : M_impl_newBank ap0_1 np0_1 cp0_1 h R) : CallsH PP fn_impl_newBank [.slice ap0_1 np0_1 cp0_1] h R :=
  callsH_of X0ok Try.func86 (by kernel_rfl) plan_impl_newBank [.l (.sl ap0_1 np0_1 cp0_1)] (Eq.mpr (congrFun (congrFun (congrFun (congrFun (congrFun tie_impl_newBank ap0_1) np0_1) cp0_1) h) R) hm)
/- 87: (*impl.Bank).step -/
def M_impl_Bank_step (b0 o0 : Nat) (xp1_0_1 : Int) (xp1_1_2 : Int) (xp1_2_3 : Int) (xp1_3_4 : Int) (h : Heap) (R : Value → Heap → Prop) : Prop :=
  ∀ h5 : Heap, h5 = newRowH h ty_impl_SnapStep [.int .i64 xp1_0_1, .int .i64 xp1_1_2, .int .i64 xp1_2_3, .int .i64 xp1_3_4] →
  ∃ (a11_6 : Option Addr) (n11_6 c11_6 : Nat), cellAt h5 b0 o0 = some (.slice a11_6 n11_6 c11_6) ∧
  ∃ (x14_7 : Int), cellAt h5 h.size 1 = some (.int .i64 x14_7) ∧
  CallsH PP fn_impl_within [.int .i64 x14_7, .int .i64 0, .int .i64 (IntKind.i64.wrap (((n11_6 : Nat) : Int) - 1))] h5 fun (v8 : Value) (h8 : Heap) =>
  ∃ (t17_9 : Bool), v8 = .bool t17_9 ∧
  (((!t17_9) = false →
    ∃ (x21_10 : Int), cellAt h8 h.size 2 = some (.int .i64 x21_10) ∧
    CallsH PP fn_impl_within [.int .i64 x21_10, .int .i64 0, .int .i64 (IntKind.i64.wrap (((n11_6 : Nat) : Int) - 1))] h8 fun (v11 : Value) (h11 : Heap) =>
    ∃ (t24_12 : Bool), v11 = .bool t24_12 ∧
    (((!t24_12) = true →
      R (.bool false) h11) ∧
    ((!t24_12) = false →
      ∃ (a30_13 : Option Addr) (n30_13 c30_13 : Nat), cellAt h11 b0 (o0 + 1) = some (.slice a30_13 n30_13 c30_13) ∧
      ∃ (x32_14 : Int), cellAt h11 h.size 1 = some (.int .i64 x32_14) ∧
      ∃ (x36_15 : Int), cellAt h11 h.size 2 = some (.int .i64 x36_15) ∧
      ∃ (b38_16 o38_16 : Nat), a30_13 = some ⟨b38_16, o38_16, none⟩ ∧ (0 : Int) ≤ IntKind.i64.wrap ((IntKind.i64.wrap (x32_14 * ((n11_6 : Nat) : Int))) + x36_15) ∧ (IntKind.i64.wrap ((IntKind.i64.wrap (x32_14 * ((n11_6 : Nat) : Int))) + x36_15) : Int) < ((n30_13 : Nat) : Int) ∧
      ∃ (x40_17 : Int), cellAt h11 h.size 0 = some (.int .i64 x40_17) ∧
      ((((x40_17 : Int) == 1) = true →
        ∃ (x44_18 : Int), cellAt h11 h.size 3 = some (.int .i64 x44_18) ∧
        CallsH PP fn_impl_within [.int .i64 x44_18, .int .i64 1, .int .i64 50] h11 fun (v19 : Value) (h19 : Heap) =>
        ∃ (t45_20 : Bool), v19 = .bool t45_20 ∧
        (((!t45_20) = false →
          ∃ (a51_21 : Option Addr) (n51_21 c51_21 : Nat), cellAt h19 b0 o0 = some (.slice a51_21 n51_21 c51_21) ∧
          ∃ (x53_22 : Int), cellAt h19 h.size 1 = some (.int .i64 x53_22) ∧
          ∃ (b54_23 o54_23 : Nat), a51_21 = some ⟨b54_23, o54_23, none⟩ ∧ (0 : Int) ≤ x53_22 ∧ (x53_22 : Int) < ((n51_21 : Nat) : Int) ∧
          ∃ (x55_24 : Int), cellAt h19 b54_23 (o54_23 + x53_22.toNat) = some (.int .i64 x55_24) ∧
          ∃ (x57_25 : Int), cellAt h19 h.size 3 = some (.int .i64 x57_25) ∧
          (((decide ((x55_24 : Int) < x57_25)) = false →
            ∃ (x62_26 : Int), cellAt h19 h.size 2 = some (.int .i64 x62_26) ∧
            ∃ (x64_27 : Int), cellAt h19 h.size 1 = some (.int .i64 x64_27) ∧
            ((((x62_26 : Int) == x64_27) = false →
              ∃ (a70_28 : Option Addr) (n70_28 c70_28 : Nat), cellAt h19 b38_16 (o38_16 + ((IntKind.i64.wrap ((IntKind.i64.wrap (x32_14 * ((n11_6 : Nat) : Int))) + x36_15)).toNat)) = some (.slice a70_28 n70_28 c70_28) ∧
              (((decide ((((n70_28 : Nat) : Int) : Int) ≥ 39)) = true →
                R (.bool false) h19) ∧
              ((decide ((((n70_28 : Nat) : Int) : Int) ≥ 39)) = false →
                ∃ (a77_29 : Option Addr) (n77_29 c77_29 : Nat), cellAt h19 b0 o0 = some (.slice a77_29 n77_29 c77_29) ∧
                ∃ (x79_30 : Int), cellAt h19 h.size 1 = some (.int .i64 x79_30) ∧
                ∃ (b80_31 o80_31 : Nat), a77_29 = some ⟨b80_31, o80_31, none⟩ ∧ (0 : Int) ≤ x79_30 ∧ (x79_30 : Int) < ((n77_29 : Nat) : Int) ∧
                ∃ (x81_32 : Int), cellAt h19 b80_31 (o80_31 + x79_30.toNat) = some (.int .i64 x81_32) ∧
                ∃ (x83_33 : Int), cellAt h19 h.size 3 = some (.int .i64 x83_33) ∧
                ∃ (b85_34 o85_34 : Nat), a77_29 = some ⟨b85_34, o85_34, none⟩ ∧ (0 : Int) ≤ x79_30 ∧ (x79_30 : Int) < ((n77_29 : Nat) : Int) ∧
                ∃ (e35 : TypeId) (c35 : List Value), Row h19 b85_34 e35 c35 ∧ o85_34 + x79_30.toNat < c35.length ∧
                ∀ h36 : Heap, h36 = putRow h19 b85_34 e35 (c35.set (o85_34 + x79_30.toNat) (.int .i64 (IntKind.i64.wrap (x81_32 - x83_33)))) →
                ∃ (a89_37 : Option Addr) (n89_37 c89_37 : Nat), cellAt h36 b38_16 (o38_16 + ((IntKind.i64.wrap ((IntKind.i64.wrap (x32_14 * ((n11_6 : Nat) : Int))) + x36_15)).toNat)) = some (.slice a89_37 n89_37 c89_37) ∧
                ∃ (x91_38 : Int), cellAt h36 h.size 3 = some (.int .i64 x91_38) ∧
                ∀ h39 : Heap, h39 = newRowH h36 ty_int [.int .i64 x91_38] →
                cellAt h39 b38_16 (o38_16 + ((IntKind.i64.wrap ((IntKind.i64.wrap (x32_14 * ((n11_6 : Nat) : Int))) + x36_15)).toNat)) = some (.slice a89_37 n89_37 c89_37) ∧
                appendH h39 ty_int 1 [.int .i64 0] a89_37 n89_37 c89_37 (some ⟨h36.size, 0, none⟩) 1 fun (a93_40 : Option Addr) (n93_40 c93_40 : Nat) (h40 : Heap) =>
                ∃ (e41 : TypeId) (c41 : List Value), Row h40 b38_16 e41 c41 ∧ o38_16 + ((IntKind.i64.wrap ((IntKind.i64.wrap (x32_14 * ((n11_6 : Nat) : Int))) + x36_15)).toNat) < c41.length ∧
                ∀ h42 : Heap, h42 = putRow h40 b38_16 e41 (c41.set (o38_16 + ((IntKind.i64.wrap ((IntKind.i64.wrap (x32_14 * ((n11_6 : Nat) : Int))) + x36_15)).toNat)) (.slice a93_40 n93_40 c93_40)) →
                R (.bool true) h42))) ∧
            (((x62_26 : Int) == x64_27) = true →
              R (.bool false) h19))) ∧
          ((decide ((x55_24 : Int) < x57_25)) = true →
            R (.bool false) h19))) ∧
        ((!t45_20) = true →
          R (.bool false) h19))) ∧
      (((x40_17 : Int) == 1) = false →
        ((((x40_17 : Int) == 2) = true →
          ∃ (a99_43 : Option Addr) (n99_43 c99_43 : Nat), cellAt h11 b38_16 (o38_16 + ((IntKind.i64.wrap ((IntKind.i64.wrap (x32_14 * ((n11_6 : Nat) : Int))) + x36_15)).toNat)) = some (.slice a99_43 n99_43 c99_43) ∧
          ((((((n99_43 : Nat) : Int) : Int) == 0) = false →
            ∃ (x104_44 : Int), cellAt h11 h.size 3 = some (.int .i64 x104_44) ∧
            ((((x104_44 : Int) != 0) = true →
              R (.bool false) h11) ∧
            (((x104_44 : Int) != 0) = false →
              ∃ (a109_45 : Option Addr) (n109_45 c109_45 : Nat), cellAt h11 b38_16 (o38_16 + ((IntKind.i64.wrap ((IntKind.i64.wrap (x32_14 * ((n11_6 : Nat) : Int))) + x36_15)).toNat)) = some (.slice a109_45 n109_45 c109_45) ∧
              ∃ (b110_46 o110_46 : Nat), a109_45 = some ⟨b110_46, o110_46, none⟩ ∧ (0 : Int) ≤ 0 ∧ (0 : Int) < ((n109_45 : Nat) : Int) ∧
              ∃ (x111_47 : Int), cellAt h11 b110_46 o110_46 = some (.int .i64 x111_47) ∧
              ∃ (a115_48 : Option Addr) (n115_48 c115_48 : Nat), cellAt h11 b38_16 (o38_16 + ((IntKind.i64.wrap ((IntKind.i64.wrap (x32_14 * ((n11_6 : Nat) : Int))) + x36_15)).toNat)) = some (.slice a115_48 n115_48 c115_48) ∧
              (0 : Int) ≤ 1 ∧ (1 : Int) ≤ ((n115_48 : Nat) : Int) ∧ ((n115_48 : Nat) : Int) ≤ ((c115_48 : Nat) : Int) ∧
              ∃ (e49 : TypeId) (c49 : List Value), Row h11 b38_16 e49 c49 ∧ o38_16 + ((IntKind.i64.wrap ((IntKind.i64.wrap (x32_14 * ((n11_6 : Nat) : Int))) + x36_15)).toNat) < c49.length ∧
              ∀ h50 : Heap, h50 = putRow h11 b38_16 e49 (c49.set (o38_16 + ((IntKind.i64.wrap ((IntKind.i64.wrap (x32_14 * ((n11_6 : Nat) : Int))) + x36_15)).toNat)) (.slice (subA a115_48 c115_48 1 1) (n115_48 - 1) (c115_48 - 1))) →
              ∃ (x120_51 : Int), cellAt h50 h.size 1 = some (.int .i64 x120_51) ∧
              ∃ (x122_52 : Int), cellAt h50 h.size 2 = some (.int .i64 x122_52) ∧
              CallsH PP fn_impl_Bank_take [.pointer (some ⟨b0, o0, none⟩), .int .i64 x120_51, .int .i64 x122_52, .int .i64 x111_47] h50 fun (v53 : Value) (h53 : Heap) =>
              v53 = .tuple ⟨[]⟩ ∧
              R (.bool true) h53))) ∧
          (((((n99_43 : Nat) : Int) : Int) == 0) = true →
            R (.bool false) h11))) ∧
        (((x40_17 : Int) == 2) = false →
          ((((x40_17 : Int) == 3) = true →
            ∃ (a130_54 : Option Addr) (n130_54 c130_54 : Nat), cellAt h11 b0 (o0 + 2) = some (.slice a130_54 n130_54 c130_54) ∧
            ∃ (x132_55 : Int), cellAt h11 h.size 1 = some (.int .i64 x132_55) ∧
            ∃ (b133_56 o133_56 : Nat), a130_54 = some ⟨b133_56, o133_56, none⟩ ∧ (0 : Int) ≤ x132_55 ∧ (x132_55 : Int) < ((n130_54 : Nat) : Int) ∧
            ∃ (x134_57 : Int), cellAt h11 b133_56 (o133_56 + x132_55.toNat) = some (.int .i64 x134_57) ∧
            (((decide ((x134_57 : Int) ≥ 0)) = false →
              ∃ (x138_58 : Int), cellAt h11 h.size 2 = some (.int .i64 x138_58) ∧
              ((((x138_58 : Int) != 0) = false →
                ∃ (x143_59 : Int), cellAt h11 h.size 3 = some (.int .i64 x143_59) ∧
                ((((x143_59 : Int) != 0) = true →
                  R (.bool false) h11) ∧
                (((x143_59 : Int) != 0) = false →
                  ∃ (x148_60 : Int), cellAt h11 h.size 1 = some (.int .i64 x148_60) ∧
                  CallsH PP fn_impl_Bank_record [.pointer (some ⟨b0, o0, none⟩), .int .i64 x148_60] h11 fun (v61 : Value) (h61 : Heap) =>
                  v61 = .tuple ⟨[]⟩ ∧
                  R (.bool true) h61))) ∧
              (((x138_58 : Int) != 0) = true →
                R (.bool false) h11))) ∧
            ((decide ((x134_57 : Int) ≥ 0)) = true →
              R (.bool false) h11))) ∧
          (((x40_17 : Int) == 3) = false →
            R (.bool false) h11))))))))) ∧
  ((!t17_9) = true →
    R (.bool false) h8))
def plan_impl_Bank_step : Plan := .seq none (.leaf) (.seq none (.leaf) (.seq none (.seq none (.leaf) (.cond (.seq none (.leaf) (.leaf)) (.leaf))) (.seq none (.draw (.op 0 (.op 1 (.op 2 (.op 3 (.op 4 (.op 5 (.op 6 (.op 7 (.op 8 (.op 9 (.op 10 (.op 11 (.op 12 .done)))))))))))))) (.seq none (.seq none (.leaf) (.block (.seq none (.leaf) (.cond (.seq none (.seq none (.draw (.op 0 (.op 1 (.op 2 (.op 3 (.op 4 (.op 5 (.op 6 (.op 7 (.op 8 (.op 9 (.op 10 (.op 11 (.op 12 (.op 13 (.op 14 (.op 15 (.op 16 (.op 17 (.op 18 (.op 19 (.op 20 (.op 21 (.op 22 (.op 23 (.op 24 (.op 25 (.op 26 (.op 27 (.op 28 (.op 29 (.op 30 .done)))))))))))))))))))))))))))))))) (.cond (.seq none (.leaf) (.leaf)) (.leaf))) (.seq none (.draw (.op 0 (.op 1 (.op 2 (.op 3 (.op 4 (.op 5 (.op 6 (.op 7 (.op 8 (.op 9 (.op 10 (.op 11 (.op 12 .done)))))))))))))) (.draw (.op 0 (.op 1 (.op 2 (.op 3 (.op 4 (.op 5 (.op 6 (.op 7 (.op 8 (.op 9 .done))))))))))))) (.seq none (.leaf) (.cond (.seq none (.seq none (.leaf) (.cond (.seq none (.leaf) (.leaf)) (.leaf))) (.seq none (.leaf) (.seq none (.leaf) (.leaf)))) (.seq none (.leaf) (.cond (.seq none (.seq none (.draw (.op 0 (.op 1 (.op 2 (.op 3 (.op 4 (.op 5 (.op 6 (.op 7 (.op 8 (.op 9 (.op 10 (.op 11 (.op 12 (.op 13 (.op 14 (.op 15 (.op 16 (.op 17 (.op 18 .done)))))))))))))))))))) (.cond (.seq none (.leaf) (.leaf)) (.leaf))) (.leaf)) (.seq none (.leaf) (.leaf)))))))))) (.seq none (.leaf) (.leaf))))))
theorem tie_impl_Bank_step : (fun (b0 o0 : Nat) (xp1_0_1 : Int) (xp1_1_2 : Int) (xp1_2_3 : Int) (xp1_3_4 : Int) (h : Heap) (R : Value → Heap → Prop) => denF X0 Try.f87 (bodyOf Try.f87) plan_impl_Bank_step [.l (.ptrB b0 o0), .agg [.int .i64 xp1_0_1, .int .i64 xp1_1_2, .int .i64 xp1_2_3, .int .i64 xp1_3_4]] h R) = M_impl_Bank_step := by kernel_rfl
theorem calls_impl_Bank_step (b0 o0 : Nat) (xp1_0_1 : Int) (xp1_1_2 : Int) (xp1_2_3 : Int) (xp1_3_4 : Int) {h : Heap} {R : Value → Heap → Prop} (hm : M_impl_Bank_step b0 o0 xp1_0_1 xp1_1_2 xp1_2_3 xp1_3_4 h R) : CallsH PP fn_impl_Bank_step [.pointer (some ⟨b0, o0, none⟩), .agg ⟨[.int .i64 xp1_0_1, .int .i64 xp1_1_2, .int .i64 xp1_2_3, .int .i64 xp1_3_4]⟩] h R :=
  callsH_of X0ok Try.func87 (by kernel_rfl) plan_impl_Bank_step [.l (.ptrB b0 o0), .agg [.int .i64 xp1_0_1, .int .i64 xp1_1_2, .int .i64 xp1_2_3, .int .i64 xp1_3_4]] (Eq.mpr (congrFun (congrFun (congrFun (congrFun (congrFun (congrFun (congrFun (congrFun tie_impl_Bank_step b0) o0) xp1_0_1) xp1_1_2) xp1_2_3) xp1_3_4) h) R) hm)
/- 119: impl.within -/
def M_impl_within (xp0_1 : Int) (xp1_2 : Int) (xp2_3 : Int) (h : Heap) (R : Value → Heap → Prop) : Prop :=
  (((decide ((xp0_1 : Int) ≥ xp1_2)) = true →
    R (.bool (decide ((xp0_1 : Int) ≤ xp2_3))) h) ∧
  ((decide ((xp0_1 : Int) ≥ xp1_2)) = false →
    R (.bool false) h))
def plan_impl_within : Plan := .seq none (.leaf) (.seq none (.leaf) (.leaf))
theorem tie_impl_within : (fun (xp0_1 : Int) (xp1_2 : Int) (xp2_3 : Int) (h : Heap) (R : Value → Heap → Prop) => denF X0 Try.f119 (bodyOf Try.f119) plan_impl_within [.l (.int .i64 xp0_1), .l (.int .i64 xp1_2), .l (.int .i64 xp2_3)] h R) = M_impl_within := by kernel_rfl
theorem calls_impl_within (xp0_1 : Int) (xp1_2 : Int) (xp2_3 : Int) {h : Heap} {R : Value → Heap → Prop} (hm : M_impl_within xp0_1 xp1_2 xp2_3 h R) : CallsH PP fn_impl_within [.int .i64 xp0_1, .int .i64 xp1_2, .int .i64 xp2_3] h R :=
  callsH_of X0ok Try.func119 (by kernel_rfl) plan_impl_within [.l (.int .i64 xp0_1), .l (.int .i64 xp1_2), .l (.int .i64 xp2_3)] (Eq.mpr (congrFun (congrFun (congrFun (congrFun (congrFun tie_impl_within xp0_1) xp1_2) xp2_3) h) R) hm)
/- 160: impl.areCoins$1 -/
def M_impl_areCoins_1 (xp0_1 : Int) (h : Heap) (R : Value → Heap → Prop) : Prop :=
  CallsH PP fn_impl_within [.int .i64 xp0_1, .int .i64 0, .int .i64 50] h fun (v2 : Value) (h2 : Heap) =>
  ∃ (t4_3 : Bool), v2 = .bool t4_3 ∧
  R (.bool (!t4_3)) h2
def plan_impl_areCoins_1 : Plan := .seq none (.leaf) (.seq none (.leaf) (.leaf))
theorem tie_impl_areCoins_1 : (fun (xp0_1 : Int) (h : Heap) (R : Value → Heap → Prop) => denF X0 Try.f160 (bodyOf Try.f160) plan_impl_areCoins_1 [.l (.int .i64 xp0_1)] h R) = M_impl_areCoins_1 := by kernel_rfl
theorem calls_impl_areCoins_1 (xp0_1 : Int) {h : Heap} {R : Value → Heap → Prop} (hm : M_impl_areCoins_1 xp0_1 h R) : CallsH PP fn_impl_areCoins_1 [.int .i64 xp0_1] h R :=
  callsH_of X0ok Try.func160 (by kernel_rfl) plan_impl_areCoins_1 [.l (.int .i64 xp0_1)] (Eq.mpr (congrFun (congrFun (congrFun tie_impl_areCoins_1 xp0_1) h) R) hm)
/- 163: (*impl.Bank).take -/
def M_impl_Bank_take (b0 o0 : Nat) (xp1_1 : Int) (xp2_2 : Int) (xp3_3 : Int) (h : Heap) (R : Value → Heap → Prop) : Prop :=
  (((decide ((xp3_3 : Int) > 0)) = true →
    ∃ (a13_4 : Option Addr) (n13_4 c13_4 : Nat), cellAt h b0 o0 = some (.slice a13_4 n13_4 c13_4) ∧
    ∃ (b15_5 o15_5 : Nat), a13_4 = some ⟨b15_5, o15_5, none⟩ ∧ (0 : Int) ≤ xp2_2 ∧ (xp2_2 : Int) < ((n13_4 : Nat) : Int) ∧
    ∃ (x16_6 : Int), cellAt h b15_5 (o15_5 + xp2_2.toNat) = some (.int .i64 x16_6) ∧
    ∃ (b19_7 o19_7 : Nat), a13_4 = some ⟨b19_7, o19_7, none⟩ ∧ (0 : Int) ≤ xp2_2 ∧ (xp2_2 : Int) < ((n13_4 : Nat) : Int) ∧
    ∃ (e8 : TypeId) (c8 : List Value), Row h b19_7 e8 c8 ∧ o19_7 + xp2_2.toNat < c8.length ∧
    ∀ h9 : Heap, h9 = putRow h b19_7 e8 (c8.set (o19_7 + xp2_2.toNat) (.int .i64 (IntKind.i64.wrap (x16_6 + xp3_3)))) →
    ∀ (K10 : List Value → Heap → Prop), (∀ h10 : Heap, ∀ (t40_11 : Bool), (
      ((t40_11 = true →
        ∃ (a44_12 : Option Addr) (n44_12 c44_12 : Nat), cellAt h10 b0 (o0 + 4) = some (.slice a44_12 n44_12 c44_12) ∧
        ∃ (b46_13 o46_13 : Nat), a44_12 = some ⟨b46_13, o46_13, none⟩ ∧ (0 : Int) ≤ xp1_1 ∧ (xp1_1 : Int) < ((n44_12 : Nat) : Int) ∧
        ∃ (a47_14 : Option Addr) (n47_14 c47_14 : Nat), cellAt h10 b46_13 (o46_13 + xp1_1.toNat) = some (.slice a47_14 n47_14 c47_14) ∧
        ∃ (b49_15 o49_15 : Nat), a47_14 = some ⟨b49_15, o49_15, none⟩ ∧ (0 : Int) ≤ xp2_2 ∧ (xp2_2 : Int) < ((n47_14 : Nat) : Int) ∧
        ∃ (x50_16 : Int), cellAt h10 b49_15 (o49_15 + xp2_2.toNat) = some (.int .i64 x50_16) ∧
        ∃ (b53_17 o53_17 : Nat), a47_14 = some ⟨b53_17, o53_17, none⟩ ∧ (0 : Int) ≤ xp2_2 ∧ (xp2_2 : Int) < ((n47_14 : Nat) : Int) ∧
        ∃ (e18 : TypeId) (c18 : List Value), Row h10 b53_17 e18 c18 ∧ o53_17 + xp2_2.toNat < c18.length ∧
        ∀ h19 : Heap, h19 = putRow h10 b53_17 e18 (c18.set (o53_17 + xp2_2.toNat) (.int .i64 (IntKind.i64.wrap (x50_16 + xp3_3)))) →
        R (.tuple ⟨[]⟩) h19) ∧
      (t40_11 = false →
        R (.tuple ⟨[]⟩) h10))) → K10 [.bool t40_11] h10) →
    ∃ (a23_20 : Option Addr) (n23_20 c23_20 : Nat), cellAt h9 b0 (o0 + 2) = some (.slice a23_20 n23_20 c23_20) ∧
    ∃ (b25_21 o25_21 : Nat), a23_20 = some ⟨b25_21, o25_21, none⟩ ∧ (0 : Int) ≤ xp2_2 ∧ (xp2_2 : Int) < ((n23_20 : Nat) : Int) ∧
    ∃ (x26_22 : Int), cellAt h9 b25_21 (o25_21 + xp2_2.toNat) = some (.int .i64 x26_22) ∧
    (((decide ((x26_22 : Int) ≥ 0)) = true →
      ∃ (a32_23 : Option Addr) (n32_23 c32_23 : Nat), cellAt h9 b0 (o0 + 3) = some (.slice a32_23 n32_23 c32_23) ∧
      ∃ (b34_24 o34_24 : Nat), a32_23 = some ⟨b34_24, o34_24, none⟩ ∧ (0 : Int) ≤ xp2_2 ∧ (xp2_2 : Int) < ((n32_23 : Nat) : Int) ∧
      ∃ (a35_25 : Option Addr) (n35_25 c35_25 : Nat), cellAt h9 b34_24 (o34_24 + xp2_2.toNat) = some (.slice a35_25 n35_25 c35_25) ∧
      ∃ (b37_26 o37_26 : Nat), a35_25 = some ⟨b37_26, o37_26, none⟩ ∧ (0 : Int) ≤ xp1_1 ∧ (xp1_1 : Int) < ((n35_25 : Nat) : Int) ∧
      ∃ (t38_27 : Bool), cellAt h9 b37_26 (o37_26 + xp1_1.toNat) = some (.bool t38_27) ∧
      K10 [.bool (!t38_27)] h9) ∧
    ((decide ((x26_22 : Int) ≥ 0)) = false →
      K10 [.bool false] h9))) ∧
  ((decide ((xp3_3 : Int) > 0)) = false →
    ∀ (K28 : List Value → Heap → Prop), (∀ h28 : Heap, (
      ∃ (a68_29 : Option Addr) (n68_29 c68_29 : Nat), cellAt h28 b0 (o0 + 3) = some (.slice a68_29 n68_29 c68_29) ∧
      ∃ (b70_30 o70_30 : Nat), a68_29 = some ⟨b70_30, o70_30, none⟩ ∧ (0 : Int) ≤ xp2_2 ∧ (xp2_2 : Int) < ((n68_29 : Nat) : Int) ∧
      ∃ (a71_31 : Option Addr) (n71_31 c71_31 : Nat), cellAt h28 b70_30 (o70_30 + xp2_2.toNat) = some (.slice a71_31 n71_31 c71_31) ∧
      ∃ (b73_32 o73_32 : Nat), a71_31 = some ⟨b73_32, o73_32, none⟩ ∧ (0 : Int) ≤ xp1_1 ∧ (xp1_1 : Int) < ((n71_31 : Nat) : Int) ∧
      ∃ (e33 : TypeId) (c33 : List Value), Row h28 b73_32 e33 c33 ∧ o73_32 + xp1_1.toNat < c33.length ∧
      ∀ h34 : Heap, h34 = putRow h28 b73_32 e33 (c33.set (o73_32 + xp1_1.toNat) (.bool true)) →
      R (.tuple ⟨[]⟩) h34) → K28 [] h28) →
    ∃ (a57_35 : Option Addr) (n57_35 c57_35 : Nat), cellAt h b0 (o0 + 2) = some (.slice a57_35 n57_35 c57_35) ∧
    ∃ (b59_36 o59_36 : Nat), a57_35 = some ⟨b59_36, o59_36, none⟩ ∧ (0 : Int) ≤ xp2_2 ∧ (xp2_2 : Int) < ((n57_35 : Nat) : Int) ∧
    ∃ (x60_37 : Int), cellAt h b59_36 (o59_36 + xp2_2.toNat) = some (.int .i64 x60_37) ∧
    (((decide ((x60_37 : Int) < 0)) = true →
      CallsH PP fn_impl_Bank_record [.pointer (some ⟨b0, o0, none⟩), .int .i64 xp2_2] h fun (v38 : Value) (h38 : Heap) =>
      v38 = .tuple ⟨[]⟩ ∧
      K28 [] h38) ∧
    ((decide ((x60_37 : Int) < 0)) = false →
      K28 [] h))))
def plan_impl_Bank_take : Plan := .seq none (.seq none (.leaf) (.cond (.seq none (.leaf) (.seq none (.seq (some [(40, .l (.bool))]) (.leaf) (.cond (.leaf) (.leaf))) (.leaf))) (.leaf))) (.seq (some []) (.seq none (.leaf) (.cond (.leaf) (.leaf))) (.leaf))
theorem tie_impl_Bank_take : (fun (b0 o0 : Nat) (xp1_1 : Int) (xp2_2 : Int) (xp3_3 : Int) (h : Heap) (R : Value → Heap → Prop) => denF X0 Try.f163 (bodyOf Try.f163) plan_impl_Bank_take [.l (.ptrB b0 o0), .l (.int .i64 xp1_1), .l (.int .i64 xp2_2), .l (.int .i64 xp3_3)] h R) = M_impl_Bank_take := by kernel_rfl
theorem calls_impl_Bank_take (b0 o0 : Nat) (xp1_1 : Int) (xp2_2 : Int) (xp3_3 : Int) {h : Heap} {R : Value → Heap → Prop} (hm : M_impl_Bank_take b0 o0 xp1_1 xp2_2 xp3_3 h R) : CallsH PP fn_impl_Bank_take [.pointer (some ⟨b0, o0, none⟩), .int .i64 xp1_1, .int .i64 xp2_2, .int .i64 xp3_3] h R :=
  callsH_of X0ok Try.func163 (by kernel_rfl) plan_impl_Bank_take [.l (.ptrB b0 o0), .l (.int .i64 xp1_1), .l (.int .i64 xp2_2), .l (.int .i64 xp3_3)] (Eq.mpr (congrFun (congrFun (congrFun (congrFun (congrFun (congrFun (congrFun tie_impl_Bank_take b0) o0) xp1_1) xp2_2) xp3_3) h) R) hm)
/- 164: (*impl.Bank).record -/
def M_impl_Bank_record (b0 o0 : Nat) (xp1_1 : Int) (h : Heap) (R : Value → Heap → Prop) : Prop :=
  ∃ (a9_2 : Option Addr) (n9_2 c9_2 : Nat), cellAt h b0 o0 = some (.slice a9_2 n9_2 c9_2) ∧
  ∃ (a14_3 : Option Addr) (n14_3 c14_3 : Nat), cellAt h b0 (o0 + 2) = some (.slice a14_3 n14_3 c14_3) ∧
  ∃ (a19_4 : Option Addr) (n19_4 c19_4 : Nat), cellAt h b0 o0 = some (.slice a19_4 n19_4 c19_4) ∧
  ∃ (b21_5 o21_5 : Nat), a19_4 = some ⟨b21_5, o21_5, none⟩ ∧ (0 : Int) ≤ xp1_1 ∧ (xp1_1 : Int) < ((n19_4 : Nat) : Int) ∧
  ∃ (x22_6 : Int), cellAt h b21_5 (o21_5 + xp1_1.toNat) = some (.int .i64 x22_6) ∧
  ∃ (b23_7 o23_7 : Nat), a14_3 = some ⟨b23_7, o23_7, none⟩ ∧ (0 : Int) ≤ xp1_1 ∧ (xp1_1 : Int) < ((n14_3 : Nat) : Int) ∧
  ∃ (e8 : TypeId) (c8 : List Value), Row h b23_7 e8 c8 ∧ o23_7 + xp1_1.toNat < c8.length ∧
  ∀ h9 : Heap, h9 = putRow h b23_7 e8 (c8.set (o23_7 + xp1_1.toNat) (.int .i64 x22_6)) →
  ∃ (I10 : List Value → Heap → Prop) (μ10 : List Value → Heap → Nat), I10 [.int .i64 0] h9 ∧
  ∀ h10 : Heap, ∀ (x25_11 : Int), I10 [.int .i64 x25_11] h10 →
    (((decide ((x25_11 : Int) < ((n9_2 : Nat) : Int))) = true →
      ((((x25_11 : Int) != xp1_1) = true →
        ∃ (a34_12 : Option Addr) (n34_12 c34_12 : Nat), cellAt h10 b0 (o0 + 1) = some (.slice a34_12 n34_12 c34_12) ∧
        ∃ (a43_13 : Option Addr) (n43_13 c43_13 : Nat), cellAt h10 b0 (o0 + 1) = some (.slice a43_13 n43_13 c43_13) ∧
        ∃ (b49_14 o49_14 : Nat), a43_13 = some ⟨b49_14, o49_14, none⟩ ∧ (0 : Int) ≤ IntKind.i64.wrap ((IntKind.i64.wrap (xp1_1 * ((n9_2 : Nat) : Int))) + x25_11) ∧ (IntKind.i64.wrap ((IntKind.i64.wrap (xp1_1 * ((n9_2 : Nat) : Int))) + x25_11) : Int) < ((n43_13 : Nat) : Int) ∧
        ∃ (a50_15 : Option Addr) (n50_15 c50_15 : Nat), cellAt h10 b49_14 (o49_14 + ((IntKind.i64.wrap ((IntKind.i64.wrap (xp1_1 * ((n9_2 : Nat) : Int))) + x25_11)).toNat)) = some (.slice a50_15 n50_15 c50_15) ∧
        ∀ h16 : Heap, h16 = newRowH h10 ty_int [.int .i64 0] →
        cellAt h16 b49_14 (o49_14 + ((IntKind.i64.wrap ((IntKind.i64.wrap (xp1_1 * ((n9_2 : Nat) : Int))) + x25_11)).toNat)) = some (.slice a50_15 n50_15 c50_15) ∧
        cellAt h16 b0 (o0 + 1) = some (.slice a43_13 n43_13 c43_13) ∧
        cellAt h16 b0 (o0 + 1) = some (.slice a34_12 n34_12 c34_12) ∧
        appendH h16 ty_int 1 [.int .i64 0] a50_15 n50_15 c50_15 (some ⟨h10.size, 0, none⟩) 1 fun (a52_17 : Option Addr) (n52_17 c52_17 : Nat) (h17 : Heap) =>
        cellAt h17 b0 (o0 + 1) = some (.slice a34_12 n34_12 c34_12) ∧
        ∃ (b53_18 o53_18 : Nat), a34_12 = some ⟨b53_18, o53_18, none⟩ ∧ (0 : Int) ≤ IntKind.i64.wrap ((IntKind.i64.wrap (xp1_1 * ((n9_2 : Nat) : Int))) + x25_11) ∧ (IntKind.i64.wrap ((IntKind.i64.wrap (xp1_1 * ((n9_2 : Nat) : Int))) + x25_11) : Int) < ((n34_12 : Nat) : Int) ∧
        ∃ (e19 : TypeId) (c19 : List Value), Row h17 b53_18 e19 c19 ∧ o53_18 + ((IntKind.i64.wrap ((IntKind.i64.wrap (xp1_1 * ((n9_2 : Nat) : Int))) + x25_11)).toNat) < c19.length ∧
        ∀ h20 : Heap, h20 = putRow h17 b53_18 e19 (c19.set (o53_18 + ((IntKind.i64.wrap ((IntKind.i64.wrap (xp1_1 * ((n9_2 : Nat) : Int))) + x25_11)).toNat)) (.slice a52_17 n52_17 c52_17)) →
        I10 [.int .i64 (IntKind.i64.wrap (x25_11 + 1))] h20 ∧ μ10 [.int .i64 (IntKind.i64.wrap (x25_11 + 1))] h20 < μ10 [.int .i64 x25_11] h10) ∧
      (((x25_11 : Int) != xp1_1) = false →
        I10 [.int .i64 (IntKind.i64.wrap (x25_11 + 1))] h10 ∧ μ10 [.int .i64 (IntKind.i64.wrap (x25_11 + 1))] h10 < μ10 [.int .i64 x25_11] h10))) ∧
    ((decide ((x25_11 : Int) < ((n9_2 : Nat) : Int))) = false →
      R (.tuple ⟨[]⟩) h10))
def plan_impl_Bank_record : Plan := .seq none (.leaf) (.seq none (.draw (.op 0 (.op 1 (.op 2 (.op 3 (.op 4 (.op 5 (.op 6 (.op 7 (.op 8 (.op 9 (.op 10 (.op 11 (.op 12 (.op 13 .done))))))))))))))) (.seq none (.leaf) (.block (.loop [(25, .l (.int .i64))] (.seq none (.leaf) (.seq none (.cond (.leaf) (.leaf)) (.seq none (.block (.seq none (.leaf) (.seq none (.leaf) (.cond (.draw (.op 0 (.op 1 (.op 2 (.op 3 (.op 4 (.op 5 (.op 6 (.op 7 (.op 8 (.op 9 (.op 10 (.op 11 (.op 12 (.op 13 (.op 14 (.op 15 (.op 16 (.op 17 (.op 18 (.op 19 (.op 20 (.op 21 (.op 22 (.op 23 .done))))))))))))))))))))))))) (.leaf))))) (.leaf))))))))
theorem tie_impl_Bank_record : (fun (b0 o0 : Nat) (xp1_1 : Int) (h : Heap) (R : Value → Heap → Prop) => denF X0 Try.f164 (bodyOf Try.f164) plan_impl_Bank_record [.l (.ptrB b0 o0), .l (.int .i64 xp1_1)] h R) = M_impl_Bank_record := by kernel_rfl
theorem calls_impl_Bank_record (b0 o0 : Nat) (xp1_1 : Int) {h : Heap} {R : Value → Heap → Prop} (hm : M_impl_Bank_record b0 o0 xp1_1 h R) : CallsH PP fn_impl_Bank_record [.pointer (some ⟨b0, o0, none⟩), .int .i64 xp1_1] h R :=
  callsH_of X0ok Try.func164 (by kernel_rfl) plan_impl_Bank_record [.l (.ptrB b0 o0), .l (.int .i64 xp1_1)] (Eq.mpr (congrFun (congrFun (congrFun (congrFun (congrFun tie_impl_Bank_record b0) o0) xp1_1) h) R) hm)
/- 140: slices.ContainsFunc[[]int,int] -/
def M_slices_ContainsFunc_int (ap0_1 : Option Addr) (np0_1 cp0_1 : Nat) (vp1_2 : Value) (h : Heap) (R : Value → Heap → Prop) : Prop :=
  CallsH PP fn_slices_IndexFunc_int [.slice ap0_1 np0_1 cp0_1, vp1_2] h fun (v3 : Value) (h3 : Heap) =>
  ∃ (x7_4 : Int), v3 = .int .i64 x7_4 ∧
  R (.bool (decide ((x7_4 : Int) ≥ 0))) h3
def plan_slices_ContainsFunc_int : Plan := .seq none (.leaf) (.seq none (.leaf) (.leaf))
theorem tie_slices_ContainsFunc_int : (fun (ap0_1 : Option Addr) (np0_1 cp0_1 : Nat) (vp1_2 : Value) (h : Heap) (R : Value → Heap → Prop) => denF X0 Try.f140 (bodyOf Try.f140) plan_slices_ContainsFunc_int [.l (.sl ap0_1 np0_1 cp0_1), .l (.any vp1_2)] h R) = M_slices_ContainsFunc_int := by kernel_rfl
theorem calls_slices_ContainsFunc_int (ap0_1 : Option Addr) (np0_1 cp0_1 : Nat) (vp1_2 : Value) {h : Heap} {R : Value → Heap → Prop} (hm : M_slices_ContainsFunc_int ap0_1 np0_1 cp0_1 vp1_2 h R) : CallsH PP fn_slices_ContainsFunc_int [.slice ap0_1 np0_1 cp0_1, vp1_2] h R :=
  callsH_of X0ok Try.func140 (by kernel_rfl) plan_slices_ContainsFunc_int [.l (.sl ap0_1 np0_1 cp0_1), .l (.any vp1_2)] (Eq.mpr (congrFun (congrFun (congrFun (congrFun (congrFun (congrFun tie_slices_ContainsFunc_int ap0_1) np0_1) cp0_1) vp1_2) h) R) hm)
/- 201: slices.IndexFunc[[]int,int] -/
def M_slices_IndexFunc_int (ap0_1 : Option Addr) (np0_1 cp0_1 : Nat) (vp1_2 : Value) (h : Heap) (R : Value → Heap → Prop) : Prop :=
  ∃ (I3 : List Value → Heap → Prop) (μ3 : List Value → Heap → Nat), I3 [.int .i64 0] h ∧
  ∀ h3 : Heap, ∀ (x8_4 : Int), I3 [.int .i64 x8_4] h3 →
    (((decide ((x8_4 : Int) < ((np0_1 : Nat) : Int))) = true →
      ∃ (b14_5 o14_5 : Nat), ap0_1 = some ⟨b14_5, o14_5, none⟩ ∧ (0 : Int) ≤ x8_4 ∧ (x8_4 : Int) < ((np0_1 : Nat) : Int) ∧
      ∃ (x15_6 : Int), cellAt h3 b14_5 (o14_5 + x8_4.toNat) = some (.int .i64 x15_6) ∧
      ∃ (g7 : FuncId) (k7 : List Value), vp1_2 = .func (.func g7) #[] ⟨k7⟩ ∧ Callable PP g7 ∧ CallsH PP g7 ([.int .i64 x15_6] ++ k7) h3 fun (v7 : Value) (h7 : Heap) =>
      ∃ (t16_8 : Bool), v7 = .bool t16_8 ∧
      ((t16_8 = true →
        R (.int .i64 x8_4) h7) ∧
      (t16_8 = false →
        I3 [.int .i64 (IntKind.i64.wrap (x8_4 + 1))] h7 ∧ μ3 [.int .i64 (IntKind.i64.wrap (x8_4 + 1))] h7 < μ3 [.int .i64 x8_4] h3))) ∧
    ((decide ((x8_4 : Int) < ((np0_1 : Nat) : Int))) = false →
      R (.int .i64 (-1)) h3))
def plan_slices_IndexFunc_int : Plan := .seq none (.leaf) (.seq none (.seq none (.leaf) (.block (.loop [(8, .l (.int .i64))] (.seq none (.leaf) (.seq none (.cond (.leaf) (.leaf)) (.seq none (.block (.seq none (.leaf) (.seq none (.leaf) (.cond (.seq none (.leaf) (.leaf)) (.leaf))))) (.leaf))))))) (.seq none (.leaf) (.leaf)))
theorem tie_slices_IndexFunc_int : (fun (ap0_1 : Option Addr) (np0_1 cp0_1 : Nat) (vp1_2 : Value) (h : Heap) (R : Value → Heap → Prop) => denF X0 Try.f201 (bodyOf Try.f201) plan_slices_IndexFunc_int [.l (.sl ap0_1 np0_1 cp0_1), .l (.any vp1_2)] h R) = M_slices_IndexFunc_int := by kernel_rfl
theorem calls_slices_IndexFunc_int (ap0_1 : Option Addr) (np0_1 cp0_1 : Nat) (vp1_2 : Value) {h : Heap} {R : Value → Heap → Prop} (hm : M_slices_IndexFunc_int ap0_1 np0_1 cp0_1 vp1_2 h R) : CallsH PP fn_slices_IndexFunc_int [.slice ap0_1 np0_1 cp0_1, vp1_2] h R :=
  callsH_of X0ok Try.func201 (by kernel_rfl) plan_slices_IndexFunc_int [.l (.sl ap0_1 np0_1 cp0_1), .l (.any vp1_2)] (Eq.mpr (congrFun (congrFun (congrFun (congrFun (congrFun (congrFun tie_slices_IndexFunc_int ap0_1) np0_1) cp0_1) vp1_2) h) R) hm)
/- 161: slices.Clone[[]int,int] -/
def M_slices_Clone_int (ap0_1 : Option Addr) (np0_1 cp0_1 : Nat) (h : Heap) (R : Value → Heap → Prop) : Prop :=
  ((ap0_1.isNone = true →
    R (.slice none 0 0) h) ∧
  (ap0_1.isNone = false →
    ∀ h2 : Heap, h2 = newRowH h ty_int [] →
    appendH h2 ty_int 1 [.int .i64 0] (some ⟨h.size, 0, none⟩) 0 0 ap0_1 np0_1 fun (a7_3 : Option Addr) (n7_3 c7_3 : Nat) (h3 : Heap) =>
    R (.slice a7_3 n7_3 c7_3) h3))
def plan_slices_Clone_int : Plan := .seq none (.leaf) (.seq none (.seq none (.leaf) (.cond (.seq none (.leaf) (.leaf)) (.leaf))) (.seq none (.leaf) (.leaf)))
theorem tie_slices_Clone_int : (fun (ap0_1 : Option Addr) (np0_1 cp0_1 : Nat) (h : Heap) (R : Value → Heap → Prop) => denF X0 Try.f161 (bodyOf Try.f161) plan_slices_Clone_int [.l (.sl ap0_1 np0_1 cp0_1)] h R) = M_slices_Clone_int := by kernel_rfl
theorem calls_slices_Clone_int (ap0_1 : Option Addr) (np0_1 cp0_1 : Nat) {h : Heap} {R : Value → Heap → Prop} (hm : M_slices_Clone_int ap0_1 np0_1 cp0_1 h R) : CallsH PP fn_slices_Clone_int [.slice ap0_1 np0_1 cp0_1] h R :=
  callsH_of X0ok Try.func161 (by kernel_rfl) plan_slices_Clone_int [.l (.sl ap0_1 np0_1 cp0_1)] (Eq.mpr (congrFun (congrFun (congrFun (congrFun (congrFun tie_slices_Clone_int ap0_1) np0_1) cp0_1) h) R) hm)
/- 162: slices.Repeat[[]int,int] -/
def M_slices_Repeat_int (ap0_1 : Option Addr) (np0_1 cp0_1 : Nat) (xp1_2 : Int) (h : Heap) (R : Value → Heap → Prop) : Prop :=
  (((decide ((xp1_2 : Int) < 0)) = true →
    False) ∧
  ((decide ((xp1_2 : Int) < 0)) = false →
    CallsH PP fn_math_bits_Mul [.int .u64 (IntKind.u64.wrap ((np0_1 : Nat) : Int)), .int .u64 (IntKind.u64.wrap xp1_2)] h fun (v3 : Value) (h3 : Heap) =>
    ∃ (x18_0_4 : Int), ∃ (x18_1_5 : Int), v3 = .tuple ⟨[.int .u64 x18_0_4, .int .u64 x18_1_5]⟩ ∧
    (((decide ((x18_0_4 : Int) > 0)) = false →
      (((decide ((x18_1_5 : Int) > 9223372036854775807)) = true →
        False) ∧
      ((decide ((x18_1_5 : Int) > 9223372036854775807)) = false →
        0 ≤ IntKind.i64.wrap x18_1_5 ∧ IntKind.i64.wrap x18_1_5 ≤ IntKind.i64.wrap x18_1_5 ∧ IntKind.i64.wrap x18_1_5 ≤ 1099511627776 ∧ ((8 : Nat) : Int) * (IntKind.i64.wrap x18_1_5) ≤ 281474976710656 ∧
        ∀ h6 : Heap, h6 = newRowH h3 ty_int (repl [.int .i64 0] (IntKind.i64.wrap x18_1_5).toNat) →
        copyH h6 1 (some ⟨h3.size, 0, none⟩) ((IntKind.i64.wrap x18_1_5).toNat) ap0_1 np0_1 fun (k7 : Nat) (h7 : Heap) =>
        ∃ (I8 : List Value → Heap → Prop) (μ8 : List Value → Heap → Nat), I8 [.int .i64 ((k7 : Nat) : Int)] h7 ∧
        ∀ h8 : Heap, ∀ (x8_9 : Int), I8 [.int .i64 x8_9] h8 →
          (((decide ((x8_9 : Int) < (((IntKind.i64.wrap x18_1_5).toNat : Nat) : Int))) = true →
            (0 : Int) ≤ x8_9 ∧ (x8_9 : Int) ≤ (((IntKind.i64.wrap x18_1_5).toNat : Nat) : Int) ∧ (((IntKind.i64.wrap x18_1_5).toNat : Nat) : Int) ≤ (((IntKind.i64.wrap x18_1_5).toNat : Nat) : Int) ∧
            (0 : Int) ≤ 0 ∧ (0 : Int) ≤ x8_9 ∧ x8_9 ≤ (((IntKind.i64.wrap x18_1_5).toNat : Nat) : Int) ∧
            copyH h8 1 (subA (some ⟨h3.size, 0, none⟩) ((IntKind.i64.wrap x18_1_5).toNat) x8_9.toNat 1) ((((IntKind.i64.wrap x18_1_5).toNat : Nat) : Int).toNat - x8_9.toNat) (some ⟨h3.size, 0, none⟩) x8_9.toNat fun (k10 : Nat) (h10 : Heap) =>
            I8 [.int .i64 (IntKind.i64.wrap (x8_9 + ((k10 : Nat) : Int)))] h10 ∧ μ8 [.int .i64 (IntKind.i64.wrap (x8_9 + ((k10 : Nat) : Int)))] h10 < μ8 [.int .i64 x8_9] h8) ∧
          ((decide ((x8_9 : Int) < (((IntKind.i64.wrap x18_1_5).toNat : Nat) : Int))) = false →
            R (.slice (some ⟨h3.size, 0, none⟩) ((IntKind.i64.wrap x18_1_5).toNat) ((IntKind.i64.wrap x18_1_5).toNat)) h8))))) ∧
    ((decide ((x18_0_4 : Int) > 0)) = true →
      False))))
def plan_slices_Repeat_int : Plan := .seq none (.leaf) (.seq none (.seq none (.leaf) (.cond (.leaf) (.leaf))) (.seq none (.leaf) (.seq none (.seq none (.leaf) (.cond (.leaf) (.leaf))) (.seq none (.leaf) (.seq none (.leaf) (.seq none (.block (.loop [(8, .l (.int .i64))] (.seq none (.seq none (.leaf) (.cond (.leaf) (.leaf))) (.block (.draw (.op 0 (.op 1 (.op 2 (.op 3 (.op 4 (.op 5 (.op 6 (.op 7 (.op 8 (.op 9 .done))))))))))))))) (.seq none (.leaf) (.leaf))))))))
theorem tie_slices_Repeat_int : (fun (ap0_1 : Option Addr) (np0_1 cp0_1 : Nat) (xp1_2 : Int) (h : Heap) (R : Value → Heap → Prop) => denF X0 Try.f162 (bodyOf Try.f162) plan_slices_Repeat_int [.l (.sl ap0_1 np0_1 cp0_1), .l (.int .i64 xp1_2)] h R) = M_slices_Repeat_int := by kernel_rfl
theorem calls_slices_Repeat_int (ap0_1 : Option Addr) (np0_1 cp0_1 : Nat) (xp1_2 : Int) {h : Heap} {R : Value → Heap → Prop} (hm : M_slices_Repeat_int ap0_1 np0_1 cp0_1 xp1_2 h R) : CallsH PP fn_slices_Repeat_int [.slice ap0_1 np0_1 cp0_1, .int .i64 xp1_2] h R :=
  callsH_of X0ok Try.func162 (by kernel_rfl) plan_slices_Repeat_int [.l (.sl ap0_1 np0_1 cp0_1), .l (.int .i64 xp1_2)] (Eq.mpr (congrFun (congrFun (congrFun (congrFun (congrFun (congrFun tie_slices_Repeat_int ap0_1) np0_1) cp0_1) xp1_2) h) R) hm)
/- 215: math/bits.Mul -/
def M_math_bits_Mul (xp0_1 : Int) (xp1_2 : Int) (h : Heap) (R : Value → Heap → Prop) : Prop :=
  CallsH PP fn_math_bits_Mul64 [.int .u64 xp0_1, .int .u64 xp1_2] h fun (v3 : Value) (h3 : Heap) =>
  ∃ (x25_0_4 : Int), ∃ (x25_1_5 : Int), v3 = .tuple ⟨[.int .u64 x25_0_4, .int .u64 x25_1_5]⟩ ∧
  R (.tuple ⟨[.int .u64 x25_0_4, .int .u64 x25_1_5]⟩) h3
def plan_math_bits_Mul : Plan := .seq none (.leaf) (.seq none (.cond (.seq none (.leaf) (.seq none (.leaf) (.leaf))) (.leaf)) (.seq none (.leaf) (.seq none (.leaf) (.leaf))))
theorem tie_math_bits_Mul : (fun (xp0_1 : Int) (xp1_2 : Int) (h : Heap) (R : Value → Heap → Prop) => denF X0 Try.f215 (bodyOf Try.f215) plan_math_bits_Mul [.l (.int .u64 xp0_1), .l (.int .u64 xp1_2)] h R) = M_math_bits_Mul := by kernel_rfl
theorem calls_math_bits_Mul (xp0_1 : Int) (xp1_2 : Int) {h : Heap} {R : Value → Heap → Prop} (hm : M_math_bits_Mul xp0_1 xp1_2 h R) : CallsH PP fn_math_bits_Mul [.int .u64 xp0_1, .int .u64 xp1_2] h R :=
  callsH_of X0ok Try.func215 (by kernel_rfl) plan_math_bits_Mul [.l (.int .u64 xp0_1), .l (.int .u64 xp1_2)] (Eq.mpr (congrFun (congrFun (congrFun (congrFun tie_math_bits_Mul xp0_1) xp1_2) h) R) hm)
/- 243: math/bits.Mul32 -/
def M_math_bits_Mul32 (xp0_1 : Int) (xp1_2 : Int) (h : Heap) (R : Value → Heap → Prop) : Prop :=
  (0 : Int) ≤ 32 ∧
  R (.tuple ⟨[.int .u32 (IntKind.u32.wrap (Int.fdiv (IntKind.u64.wrap ((IntKind.u64.wrap xp0_1) * (IntKind.u64.wrap xp1_2))) (2 ^ min 32 (IntKind.bits .u64)))), .int .u32 (IntKind.u32.wrap (IntKind.u64.wrap ((IntKind.u64.wrap xp0_1) * (IntKind.u64.wrap xp1_2))))]⟩) h
def plan_math_bits_Mul32 : Plan := .seq none (.leaf) (.seq none (.leaf) (.seq none (.leaf) (.leaf)))
theorem tie_math_bits_Mul32 : (fun (xp0_1 : Int) (xp1_2 : Int) (h : Heap) (R : Value → Heap → Prop) => denF X0 Try.f243 (bodyOf Try.f243) plan_math_bits_Mul32 [.l (.int .u32 xp0_1), .l (.int .u32 xp1_2)] h R) = M_math_bits_Mul32 := by kernel_rfl
theorem calls_math_bits_Mul32 (xp0_1 : Int) (xp1_2 : Int) {h : Heap} {R : Value → Heap → Prop} (hm : M_math_bits_Mul32 xp0_1 xp1_2 h R) : CallsH PP fn_math_bits_Mul32 [.int .u32 xp0_1, .int .u32 xp1_2] h R :=
  callsH_of X0ok Try.func243 (by kernel_rfl) plan_math_bits_Mul32 [.l (.int .u32 xp0_1), .l (.int .u32 xp1_2)] (Eq.mpr (congrFun (congrFun (congrFun (congrFun tie_math_bits_Mul32 xp0_1) xp1_2) h) R) hm)
/- 244: math/bits.Mul64 -/
def M_math_bits_Mul64 (xp0_1 : Int) (xp1_2 : Int) (h : Heap) (R : Value → Heap → Prop) : Prop :=
  (0 : Int) ≤ 32 ∧
  (0 : Int) ≤ 32 ∧
  (0 : Int) ≤ 32 ∧
  (0 : Int) ≤ 32 ∧
  (0 : Int) ≤ 32 ∧
  R (.tuple ⟨[.int .u64 (IntKind.u64.wrap ((IntKind.u64.wrap ((IntKind.u64.wrap ((Int.fdiv xp0_1 (2 ^ min 32 (IntKind.bits .u64))) * (Int.fdiv xp1_2 (2 ^ min 32 (IntKind.bits .u64))))) + (Int.fdiv (IntKind.u64.wrap ((IntKind.u64.wrap ((Int.fdiv xp0_1 (2 ^ min 32 (IntKind.bits .u64))) * (bitsI .and .u64 xp1_2 4294967295))) + (Int.fdiv (IntKind.u64.wrap ((bitsI .and .u64 xp0_1 4294967295) * (bitsI .and .u64 xp1_2 4294967295))) (2 ^ min 32 (IntKind.bits .u64))))) (2 ^ min 32 (IntKind.bits .u64))))) + (Int.fdiv (IntKind.u64.wrap ((bitsI .and .u64 (IntKind.u64.wrap ((IntKind.u64.wrap ((Int.fdiv xp0_1 (2 ^ min 32 (IntKind.bits .u64))) * (bitsI .and .u64 xp1_2 4294967295))) + (Int.fdiv (IntKind.u64.wrap ((bitsI .and .u64 xp0_1 4294967295) * (bitsI .and .u64 xp1_2 4294967295))) (2 ^ min 32 (IntKind.bits .u64))))) 4294967295) + (IntKind.u64.wrap ((bitsI .and .u64 xp0_1 4294967295) * (Int.fdiv xp1_2 (2 ^ min 32 (IntKind.bits .u64))))))) (2 ^ min 32 (IntKind.bits .u64))))), .int .u64 (IntKind.u64.wrap (xp0_1 * xp1_2))]⟩) h
def plan_math_bits_Mul64 : Plan := .seq none (.leaf) (.seq none (.leaf) (.seq none (.leaf) (.seq none (.leaf) (.seq none (.leaf) (.seq none (.leaf) (.seq none (.leaf) (.seq none (.leaf) (.seq none (.leaf) (.seq none (.leaf) (.seq none (.leaf) (.seq none (.leaf) (.leaf))))))))))))
theorem tie_math_bits_Mul64 : (fun (xp0_1 : Int) (xp1_2 : Int) (h : Heap) (R : Value → Heap → Prop) => denF X0 Try.f244 (bodyOf Try.f244) plan_math_bits_Mul64 [.l (.int .u64 xp0_1), .l (.int .u64 xp1_2)] h R) = M_math_bits_Mul64 := by kernel_rfl
theorem calls_math_bits_Mul64 (xp0_1 : Int) (xp1_2 : Int) {h : Heap} {R : Value → Heap → Prop} (hm : M_math_bits_Mul64 xp0_1 xp1_2 h R) : CallsH PP fn_math_bits_Mul64 [.int .u64 xp0_1, .int .u64 xp1_2] h R :=
  callsH_of X0ok Try.func244 (by kernel_rfl) plan_math_bits_Mul64 [.l (.int .u64 xp0_1), .l (.int .u64 xp1_2)] (Eq.mpr (congrFun (congrFun (congrFun (congrFun tie_math_bits_Mul64 xp0_1) xp1_2) h) R) hm)
end Go.Proofs.Ytjmhahjmbmiepaa.D
