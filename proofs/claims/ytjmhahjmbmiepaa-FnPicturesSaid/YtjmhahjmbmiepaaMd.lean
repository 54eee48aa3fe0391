/- The M-code of functions: what their code comes to, read at the heap. PRINTED by gen.py. -/
import Derived.Test.YtjmhahjmbmiepaaTab
namespace Go.Proofs.Ytjmhahjmbmiepaa.D
open Go Go.Proofs
set_option linter.unusedVariables false
set_option linter.unusedSimpArgs false
set_option maxRecDepth 100000
/- 4: laws.FnPictures -/
def M_laws_FnPictures (ap0_1 : Option Addr) (np0_1 cp0_1 : Nat) (h : Heap) (R : Value → Heap → Prop) : Prop :=
  (((decide ((((np0_1 : Nat) : Int) : Int) > 1048576)) = true →
    R (.bool true) h) ∧
  ((decide ((((np0_1 : Nat) : Int) : Int) > 1048576)) = false →
    CallsH PP fn_spec_DrawPlayBank [.slice ap0_1 np0_1 cp0_1] h fun (v2 : Value) (h2 : Heap) =>
    ∃ (a36_0_3 : Option Addr) (n36_0_3 c36_0_3 : Nat), ∃ (a36_1_4 : Option Addr) (n36_1_4 c36_1_4 : Nat), v2 = .tuple ⟨[.slice a36_0_3 n36_0_3 c36_0_3, .slice a36_1_4 n36_1_4 c36_1_4]⟩ ∧
    CallsH PP fn_impl_PlayBank [.slice a36_0_3 n36_0_3 c36_0_3, .slice a36_1_4 n36_1_4 c36_1_4] h2 fun (v5 : Value) (h5 : Heap) =>
    ∃ (a42_0_0_6 : Option Addr) (n42_0_0_6 c42_0_0_6 : Nat) (a42_0_1_7 : Option Addr) (n42_0_1_7 c42_0_1_7 : Nat) (a42_0_2_8 : Option Addr) (n42_0_2_8 c42_0_2_8 : Nat) (a42_0_3_9 : Option Addr) (n42_0_3_9 c42_0_3_9 : Nat) (a42_0_4_10 : Option Addr) (n42_0_4_10 c42_0_4_10 : Nat), ∃ (a42_1_11 : Option Addr) (n42_1_11 c42_1_11 : Nat), ∃ (t42_2_12 : Bool), v5 = .tuple ⟨[.agg ⟨[.slice a42_0_0_6 n42_0_0_6 c42_0_0_6, .slice a42_0_1_7 n42_0_1_7 c42_0_1_7, .slice a42_0_2_8 n42_0_2_8 c42_0_2_8, .slice a42_0_3_9 n42_0_3_9 c42_0_3_9, .slice a42_0_4_10 n42_0_4_10 c42_0_4_10]⟩, .slice a42_1_11 n42_1_11 c42_1_11, .bool t42_2_12]⟩ ∧
    ∀ h13 : Heap, h13 = newRowH h5 ty_impl_Bank [.slice none 0 0, .slice none 0 0, .slice none 0 0, .slice none 0 0, .slice none 0 0] →
    ∃ (e14 : TypeId) (c14 : List Value), Row h13 h5.size e14 c14 ∧ 0 + 5 ≤ c14.length ∧
    ∀ h15 : Heap, h15 = putRow h13 h5.size e14 (splice c14 0 [.slice a42_0_0_6 n42_0_0_6 c42_0_0_6, .slice a42_0_1_7 n42_0_1_7 c42_0_1_7, .slice a42_0_2_8 n42_0_2_8 c42_0_2_8, .slice a42_0_3_9 n42_0_3_9 c42_0_3_9, .slice a42_0_4_10 n42_0_4_10 c42_0_4_10]) →
    CallsH PP fn_spec_PlayBank [.slice a36_0_3 n36_0_3 c36_0_3, .slice a36_1_4 n36_1_4 c36_1_4] h15 fun (v16 : Value) (h16 : Heap) =>
    ∃ (a49_0_0_17 : Option Addr) (n49_0_0_17 c49_0_0_17 : Nat) (a49_0_1_18 : Option Addr) (n49_0_1_18 c49_0_1_18 : Nat) (a49_0_2_19 : Option Addr) (n49_0_2_19 c49_0_2_19 : Nat) (a49_0_3_20 : Option Addr) (n49_0_3_20 c49_0_3_20 : Nat) (a49_0_4_21 : Option Addr) (n49_0_4_21 c49_0_4_21 : Nat), ∃ (a49_1_22 : Option Addr) (n49_1_22 c49_1_22 : Nat), ∃ (t49_2_23 : Bool), v16 = .tuple ⟨[.agg ⟨[.slice a49_0_0_17 n49_0_0_17 c49_0_0_17, .slice a49_0_1_18 n49_0_1_18 c49_0_1_18, .slice a49_0_2_19 n49_0_2_19 c49_0_2_19, .slice a49_0_3_20 n49_0_3_20 c49_0_3_20, .slice a49_0_4_21 n49_0_4_21 c49_0_4_21]⟩, .slice a49_1_22 n49_1_22 c49_1_22, .bool t49_2_23]⟩ ∧
    ∀ h24 : Heap, h24 = newRowH h16 ty_impl_Bank [.slice none 0 0, .slice none 0 0, .slice none 0 0, .slice none 0 0, .slice none 0 0] →
    ∃ (e25 : TypeId) (c25 : List Value), Row h24 h16.size e25 c25 ∧ 0 + 5 ≤ c25.length ∧
    ∀ h26 : Heap, h26 = putRow h24 h16.size e25 (splice c25 0 [.slice a49_0_0_17 n49_0_0_17 c49_0_0_17, .slice a49_0_1_18 n49_0_1_18 c49_0_1_18, .slice a49_0_2_19 n49_0_2_19 c49_0_2_19, .slice a49_0_3_20 n49_0_3_20 c49_0_3_20, .slice a49_0_4_21 n49_0_4_21 c49_0_4_21]) →
    (((!(t42_2_12 == t49_2_23)) = false →
      CallsH PP fn_laws_sameBools [.slice a42_1_11 n42_1_11 c42_1_11, .slice a49_1_22 n49_1_22 c49_1_22] h26 fun (v27 : Value) (h27 : Heap) =>
      ∃ (t59_28 : Bool), v27 = .bool t59_28 ∧
      (((!t59_28) = false →
        ∃ (a63_0_29 : Option Addr) (n63_0_29 c63_0_29 : Nat), cellAt h27 h5.size 0 = some (.slice a63_0_29 n63_0_29 c63_0_29) ∧
        ∃ (a63_1_30 : Option Addr) (n63_1_30 c63_1_30 : Nat), cellAt h27 h5.size 1 = some (.slice a63_1_30 n63_1_30 c63_1_30) ∧
        ∃ (a63_2_31 : Option Addr) (n63_2_31 c63_2_31 : Nat), cellAt h27 h5.size 2 = some (.slice a63_2_31 n63_2_31 c63_2_31) ∧
        ∃ (a63_3_32 : Option Addr) (n63_3_32 c63_3_32 : Nat), cellAt h27 h5.size 3 = some (.slice a63_3_32 n63_3_32 c63_3_32) ∧
        ∃ (a63_4_33 : Option Addr) (n63_4_33 c63_4_33 : Nat), cellAt h27 h5.size 4 = some (.slice a63_4_33 n63_4_33 c63_4_33) ∧
        ∃ (a64_0_34 : Option Addr) (n64_0_34 c64_0_34 : Nat), cellAt h27 h16.size 0 = some (.slice a64_0_34 n64_0_34 c64_0_34) ∧
        ∃ (a64_1_35 : Option Addr) (n64_1_35 c64_1_35 : Nat), cellAt h27 h16.size 1 = some (.slice a64_1_35 n64_1_35 c64_1_35) ∧
        ∃ (a64_2_36 : Option Addr) (n64_2_36 c64_2_36 : Nat), cellAt h27 h16.size 2 = some (.slice a64_2_36 n64_2_36 c64_2_36) ∧
        ∃ (a64_3_37 : Option Addr) (n64_3_37 c64_3_37 : Nat), cellAt h27 h16.size 3 = some (.slice a64_3_37 n64_3_37 c64_3_37) ∧
        ∃ (a64_4_38 : Option Addr) (n64_4_38 c64_4_38 : Nat), cellAt h27 h16.size 4 = some (.slice a64_4_38 n64_4_38 c64_4_38) ∧
        CallsH PP fn_laws_sameBanks [.agg ⟨[.slice a63_0_29 n63_0_29 c63_0_29, .slice a63_1_30 n63_1_30 c63_1_30, .slice a63_2_31 n63_2_31 c63_2_31, .slice a63_3_32 n63_3_32 c63_3_32, .slice a63_4_33 n63_4_33 c63_4_33]⟩, .agg ⟨[.slice a64_0_34 n64_0_34 c64_0_34, .slice a64_1_35 n64_1_35 c64_1_35, .slice a64_2_36 n64_2_36 c64_2_36, .slice a64_3_37 n64_3_37 c64_3_37, .slice a64_4_38 n64_4_38 c64_4_38]⟩] h27 fun (v39 : Value) (h39 : Heap) =>
        ∃ (t65_40 : Bool), v39 = .bool t65_40 ∧
        (((!t65_40) = true →
          R (.bool false) h39) ∧
        ((!t65_40) = false →
          ((t42_2_12 = true →
            ∃ (I41 : List Value → Heap → Prop) (μ41 : List Value → Heap → Nat), I41 [.int .i64 0, .int .i64 0] h39 ∧
            ∀ h41 : Heap, ∀ (x11_42 : Int), ∀ (x71_43 : Int), I41 [.int .i64 x11_42, .int .i64 x71_43] h41 →
              (((decide ((x71_43 : Int) < ((n36_0_3 : Nat) : Int))) = true →
                ∃ (b73_44 o73_44 : Nat), a36_0_3 = some ⟨b73_44, o73_44, none⟩ ∧ (0 : Int) ≤ x71_43 ∧ (x71_43 : Int) < ((n36_0_3 : Nat) : Int) ∧
                ∃ (x74_45 : Int), cellAt h41 b73_44 (o73_44 + x71_43.toNat) = some (.int .i64 x74_45) ∧
                I41 [.int .i64 (IntKind.i64.wrap (x11_42 + x74_45)), .int .i64 (IntKind.i64.wrap (x71_43 + 1))] h41 ∧ μ41 [.int .i64 (IntKind.i64.wrap (x11_42 + x74_45)), .int .i64 (IntKind.i64.wrap (x71_43 + 1))] h41 < μ41 [.int .i64 x11_42, .int .i64 x71_43] h41) ∧
              ((decide ((x71_43 : Int) < ((n36_0_3 : Nat) : Int))) = false →
                ∃ (a80_0_46 : Option Addr) (n80_0_46 c80_0_46 : Nat), cellAt h41 h5.size 0 = some (.slice a80_0_46 n80_0_46 c80_0_46) ∧
                ∃ (a80_1_47 : Option Addr) (n80_1_47 c80_1_47 : Nat), cellAt h41 h5.size 1 = some (.slice a80_1_47 n80_1_47 c80_1_47) ∧
                ∃ (a80_2_48 : Option Addr) (n80_2_48 c80_2_48 : Nat), cellAt h41 h5.size 2 = some (.slice a80_2_48 n80_2_48 c80_2_48) ∧
                ∃ (a80_3_49 : Option Addr) (n80_3_49 c80_3_49 : Nat), cellAt h41 h5.size 3 = some (.slice a80_3_49 n80_3_49 c80_3_49) ∧
                ∃ (a80_4_50 : Option Addr) (n80_4_50 c80_4_50 : Nat), cellAt h41 h5.size 4 = some (.slice a80_4_50 n80_4_50 c80_4_50) ∧
                CallsH PP fn_impl_TotalIn [.agg ⟨[.slice a80_0_46 n80_0_46 c80_0_46, .slice a80_1_47 n80_1_47 c80_1_47, .slice a80_2_48 n80_2_48 c80_2_48, .slice a80_3_49 n80_3_49 c80_3_49, .slice a80_4_50 n80_4_50 c80_4_50]⟩] h41 fun (v51 : Value) (h51 : Heap) =>
                ∃ (x81_0_52 : Int), ∃ (t81_1_53 : Bool), v51 = .tuple ⟨[.int .i64 x81_0_52, .bool t81_1_53]⟩ ∧
                ∃ (a84_0_54 : Option Addr) (n84_0_54 c84_0_54 : Nat), cellAt h51 h5.size 0 = some (.slice a84_0_54 n84_0_54 c84_0_54) ∧
                ∃ (a84_1_55 : Option Addr) (n84_1_55 c84_1_55 : Nat), cellAt h51 h5.size 1 = some (.slice a84_1_55 n84_1_55 c84_1_55) ∧
                ∃ (a84_2_56 : Option Addr) (n84_2_56 c84_2_56 : Nat), cellAt h51 h5.size 2 = some (.slice a84_2_56 n84_2_56 c84_2_56) ∧
                ∃ (a84_3_57 : Option Addr) (n84_3_57 c84_3_57 : Nat), cellAt h51 h5.size 3 = some (.slice a84_3_57 n84_3_57 c84_3_57) ∧
                ∃ (a84_4_58 : Option Addr) (n84_4_58 c84_4_58 : Nat), cellAt h51 h5.size 4 = some (.slice a84_4_58 n84_4_58 c84_4_58) ∧
                CallsH PP fn_impl_GoodBank [.agg ⟨[.slice a84_0_54 n84_0_54 c84_0_54, .slice a84_1_55 n84_1_55 c84_1_55, .slice a84_2_56 n84_2_56 c84_2_56, .slice a84_3_57 n84_3_57 c84_3_57, .slice a84_4_58 n84_4_58 c84_4_58]⟩] h51 fun (v59 : Value) (h59 : Heap) =>
                ∃ (t85_60 : Bool), v59 = .bool t85_60 ∧
                (((!t85_60) = false →
                  (((!t81_1_53) = false →
                    ((((x81_0_52 : Int) != x11_42) = true →
                      R (.bool false) h59) ∧
                    (((x81_0_52 : Int) != x11_42) = false →
                      ∃ (a99_61 : Option Addr) (n99_61 c99_61 : Nat), cellAt h59 h5.size 2 = some (.slice a99_61 n99_61 c99_61) ∧
                      ∃ (I62 : List Value → Heap → Prop) (μ62 : List Value → Heap → Nat), I62 [.bool false, .int .i64 0] h59 ∧
                      ∀ h62 : Heap, ∀ (t17_63 : Bool), ∀ (x101_64 : Int), I62 [.bool t17_63, .int .i64 x101_64] h62 →
                        (((decide ((x101_64 : Int) < ((n99_61 : Nat) : Int))) = true →
                          ∃ (b103_65 o103_65 : Nat), a99_61 = some ⟨b103_65, o103_65, none⟩ ∧ (0 : Int) ≤ x101_64 ∧ (x101_64 : Int) < ((n99_61 : Nat) : Int) ∧
                          ∃ (x104_66 : Int), cellAt h62 b103_65 (o103_65 + x101_64.toNat) = some (.int .i64 x104_66) ∧
                          ((t17_63 = false →
                            I62 [.bool (decide ((x104_66 : Int) ≥ 0)), .int .i64 (IntKind.i64.wrap (x101_64 + 1))] h62 ∧ μ62 [.bool (decide ((x104_66 : Int) ≥ 0)), .int .i64 (IntKind.i64.wrap (x101_64 + 1))] h62 < μ62 [.bool t17_63, .int .i64 x101_64] h62) ∧
                          (t17_63 = true →
                            I62 [.bool true, .int .i64 (IntKind.i64.wrap (x101_64 + 1))] h62 ∧ μ62 [.bool true, .int .i64 (IntKind.i64.wrap (x101_64 + 1))] h62 < μ62 [.bool t17_63, .int .i64 x101_64] h62))) ∧
                        ((decide ((x101_64 : Int) < ((n99_61 : Nat) : Int))) = false →
                          ∀ (K67 : List Value → Heap → Prop), (∀ h67 : Heap, (
                            ∃ (I68 : List Value → Heap → Prop) (μ68 : List Value → Heap → Nat), I68 [.bool true] h67 ∧
                            ∀ h68 : Heap, ∀ (t22_69 : Bool), I68 [.bool t22_69] h68 →
                              ((t22_69 = true →
                                ∃ (I70 : List Value → Heap → Prop) (μ70 : List Value → Heap → Nat), I70 [.bool false, .int .i64 0] h68 ∧
                                ∀ h70 : Heap, ∀ (t22_71 : Bool), ∀ (x23_72 : Int), I70 [.bool t22_71, .int .i64 x23_72] h70 →
                                  (((decide ((x23_72 : Int) < ((n36_0_3 : Nat) : Int))) = true →
                                    ∃ (I73 : List Value → Heap → Prop) (μ73 : List Value → Heap → Nat), I73 [.bool t22_71, .int .i64 0] h70 ∧
                                    ∀ h73 : Heap, ∀ (t22_74 : Bool), ∀ (x24_75 : Int), I73 [.bool t22_74, .int .i64 x24_75] h73 →
                                      (((decide ((x24_75 : Int) < ((n36_0_3 : Nat) : Int))) = true →
                                        ∃ (a134_0_76 : Option Addr) (n134_0_76 c134_0_76 : Nat), cellAt h73 h5.size 0 = some (.slice a134_0_76 n134_0_76 c134_0_76) ∧
                                        ∃ (a134_1_77 : Option Addr) (n134_1_77 c134_1_77 : Nat), cellAt h73 h5.size 1 = some (.slice a134_1_77 n134_1_77 c134_1_77) ∧
                                        ∃ (a134_2_78 : Option Addr) (n134_2_78 c134_2_78 : Nat), cellAt h73 h5.size 2 = some (.slice a134_2_78 n134_2_78 c134_2_78) ∧
                                        ∃ (a134_3_79 : Option Addr) (n134_3_79 c134_3_79 : Nat), cellAt h73 h5.size 3 = some (.slice a134_3_79 n134_3_79 c134_3_79) ∧
                                        ∃ (a134_4_80 : Option Addr) (n134_4_80 c134_4_80 : Nat), cellAt h73 h5.size 4 = some (.slice a134_4_80 n134_4_80 c134_4_80) ∧
                                        CallsH PP fn_impl_StepBank [.agg ⟨[.slice a134_0_76 n134_0_76 c134_0_76, .slice a134_1_77 n134_1_77 c134_1_77, .slice a134_2_78 n134_2_78 c134_2_78, .slice a134_3_79 n134_3_79 c134_3_79, .slice a134_4_80 n134_4_80 c134_4_80]⟩, .agg ⟨[.int .i64 2, .int .i64 x23_72, .int .i64 x24_75, .int .i64 0]⟩] h73 fun (v81 : Value) (h81 : Heap) =>
                                        ∃ (a138_0_0_82 : Option Addr) (n138_0_0_82 c138_0_0_82 : Nat) (a138_0_1_83 : Option Addr) (n138_0_1_83 c138_0_1_83 : Nat) (a138_0_2_84 : Option Addr) (n138_0_2_84 c138_0_2_84 : Nat) (a138_0_3_85 : Option Addr) (n138_0_3_85 c138_0_3_85 : Nat) (a138_0_4_86 : Option Addr) (n138_0_4_86 c138_0_4_86 : Nat), ∃ (t138_1_87 : Bool), v81 = .tuple ⟨[.agg ⟨[.slice a138_0_0_82 n138_0_0_82 c138_0_0_82, .slice a138_0_1_83 n138_0_1_83 c138_0_1_83, .slice a138_0_2_84 n138_0_2_84 c138_0_2_84, .slice a138_0_3_85 n138_0_3_85 c138_0_3_85, .slice a138_0_4_86 n138_0_4_86 c138_0_4_86]⟩, .bool t138_1_87]⟩ ∧
                                        ∀ h88 : Heap, h88 = newRowH h81 ty_impl_Bank [.slice none 0 0, .slice none 0 0, .slice none 0 0, .slice none 0 0, .slice none 0 0] →
                                        ∃ (e89 : TypeId) (c89 : List Value), Row h88 h81.size e89 c89 ∧ 0 + 5 ≤ c89.length ∧
                                        ∀ h90 : Heap, h90 = putRow h88 h81.size e89 (splice c89 0 [.slice a138_0_0_82 n138_0_0_82 c138_0_0_82, .slice a138_0_1_83 n138_0_1_83 c138_0_1_83, .slice a138_0_2_84 n138_0_2_84 c138_0_2_84, .slice a138_0_3_85 n138_0_3_85 c138_0_3_85, .slice a138_0_4_86 n138_0_4_86 c138_0_4_86]) →
                                        ((t138_1_87 = true →
                                          ∃ (a142_0_91 : Option Addr) (n142_0_91 c142_0_91 : Nat), cellAt h90 h81.size 0 = some (.slice a142_0_91 n142_0_91 c142_0_91) ∧
                                          ∃ (a142_1_92 : Option Addr) (n142_1_92 c142_1_92 : Nat), cellAt h90 h81.size 1 = some (.slice a142_1_92 n142_1_92 c142_1_92) ∧
                                          ∃ (a142_2_93 : Option Addr) (n142_2_93 c142_2_93 : Nat), cellAt h90 h81.size 2 = some (.slice a142_2_93 n142_2_93 c142_2_93) ∧
                                          ∃ (a142_3_94 : Option Addr) (n142_3_94 c142_3_94 : Nat), cellAt h90 h81.size 3 = some (.slice a142_3_94 n142_3_94 c142_3_94) ∧
                                          ∃ (a142_4_95 : Option Addr) (n142_4_95 c142_4_95 : Nat), cellAt h90 h81.size 4 = some (.slice a142_4_95 n142_4_95 c142_4_95) ∧
                                          ∃ (e96 : TypeId) (c96 : List Value), Row h90 h5.size e96 c96 ∧ 0 + 5 ≤ c96.length ∧
                                          ∀ h97 : Heap, h97 = putRow h90 h5.size e96 (splice c96 0 [.slice a142_0_91 n142_0_91 c142_0_91, .slice a142_1_92 n142_1_92 c142_1_92, .slice a142_2_93 n142_2_93 c142_2_93, .slice a142_3_94 n142_3_94 c142_3_94, .slice a142_4_95 n142_4_95 c142_4_95]) →
                                          I73 [.bool true, .int .i64 (IntKind.i64.wrap (x24_75 + 1))] h97 ∧ μ73 [.bool true, .int .i64 (IntKind.i64.wrap (x24_75 + 1))] h97 < μ73 [.bool t22_74, .int .i64 x24_75] h73) ∧
                                        (t138_1_87 = false →
                                          I73 [.bool t22_74, .int .i64 (IntKind.i64.wrap (x24_75 + 1))] h90 ∧ μ73 [.bool t22_74, .int .i64 (IntKind.i64.wrap (x24_75 + 1))] h90 < μ73 [.bool t22_74, .int .i64 x24_75] h73))) ∧
                                      ((decide ((x24_75 : Int) < ((n36_0_3 : Nat) : Int))) = false →
                                        I70 [.bool t22_74, .int .i64 (IntKind.i64.wrap (x23_72 + 1))] h73 ∧ μ70 [.bool t22_74, .int .i64 (IntKind.i64.wrap (x23_72 + 1))] h73 < μ70 [.bool t22_71, .int .i64 x23_72] h70))) ∧
                                  ((decide ((x23_72 : Int) < ((n36_0_3 : Nat) : Int))) = false →
                                    I68 [.bool t22_71] h70 ∧ μ68 [.bool t22_71] h70 < μ68 [.bool t22_69] h68))) ∧
                              (t22_69 = false →
                                ∃ (a144_0_98 : Option Addr) (n144_0_98 c144_0_98 : Nat), cellAt h68 h5.size 0 = some (.slice a144_0_98 n144_0_98 c144_0_98) ∧
                                ∃ (a144_1_99 : Option Addr) (n144_1_99 c144_1_99 : Nat), cellAt h68 h5.size 1 = some (.slice a144_1_99 n144_1_99 c144_1_99) ∧
                                ∃ (a144_2_100 : Option Addr) (n144_2_100 c144_2_100 : Nat), cellAt h68 h5.size 2 = some (.slice a144_2_100 n144_2_100 c144_2_100) ∧
                                ∃ (a144_3_101 : Option Addr) (n144_3_101 c144_3_101 : Nat), cellAt h68 h5.size 3 = some (.slice a144_3_101 n144_3_101 c144_3_101) ∧
                                ∃ (a144_4_102 : Option Addr) (n144_4_102 c144_4_102 : Nat), cellAt h68 h5.size 4 = some (.slice a144_4_102 n144_4_102 c144_4_102) ∧
                                CallsH PP fn_impl_IsTaken [.agg ⟨[.slice a144_0_98 n144_0_98 c144_0_98, .slice a144_1_99 n144_1_99 c144_1_99, .slice a144_2_100 n144_2_100 c144_2_100, .slice a144_3_101 n144_3_101 c144_3_101, .slice a144_4_102 n144_4_102 c144_4_102]⟩] h68 fun (v103 : Value) (h103 : Heap) =>
                                ∃ (t145_0_104 : Bool), ∃ (t145_1_105 : Bool), v103 = .tuple ⟨[.bool t145_0_104, .bool t145_1_105]⟩ ∧
                                ∃ (a149_0_106 : Option Addr) (n149_0_106 c149_0_106 : Nat), cellAt h103 h5.size 0 = some (.slice a149_0_106 n149_0_106 c149_0_106) ∧
                                ∃ (a149_1_107 : Option Addr) (n149_1_107 c149_1_107 : Nat), cellAt h103 h5.size 1 = some (.slice a149_1_107 n149_1_107 c149_1_107) ∧
                                ∃ (a149_2_108 : Option Addr) (n149_2_108 c149_2_108 : Nat), cellAt h103 h5.size 2 = some (.slice a149_2_108 n149_2_108 c149_2_108) ∧
                                ∃ (a149_3_109 : Option Addr) (n149_3_109 c149_3_109 : Nat), cellAt h103 h5.size 3 = some (.slice a149_3_109 n149_3_109 c149_3_109) ∧
                                ∃ (a149_4_110 : Option Addr) (n149_4_110 c149_4_110 : Nat), cellAt h103 h5.size 4 = some (.slice a149_4_110 n149_4_110 c149_4_110) ∧
                                CallsH PP fn_impl_PictureOf [.agg ⟨[.slice a149_0_106 n149_0_106 c149_0_106, .slice a149_1_107 n149_1_107 c149_1_107, .slice a149_2_108 n149_2_108 c149_2_108, .slice a149_3_109 n149_3_109 c149_3_109, .slice a149_4_110 n149_4_110 c149_4_110]⟩] h103 fun (v111 : Value) (h111 : Heap) =>
                                ∃ (x150_0_112 : Int), ∃ (t150_1_113 : Bool), v111 = .tuple ⟨[.int .i64 x150_0_112, .bool t150_1_113]⟩ ∧
                                ((t145_1_105 = true →
                                  ((t145_0_104 = true →
                                    ((t150_1_113 = true →
                                      R (.bool ((x150_0_112 : Int) == x11_42)) h111) ∧
                                    (t150_1_113 = false →
                                      R (.bool false) h111))) ∧
                                  (t145_0_104 = false →
                                    R (.bool false) h111))) ∧
                                (t145_1_105 = false →
                                  R (.bool false) h111))))) → K67 [] h67) →
                          (((!t17_63) = true →
                            ∃ (a114_0_114 : Option Addr) (n114_0_114 c114_0_114 : Nat), cellAt h62 h5.size 0 = some (.slice a114_0_114 n114_0_114 c114_0_114) ∧
                            ∃ (a114_1_115 : Option Addr) (n114_1_115 c114_1_115 : Nat), cellAt h62 h5.size 1 = some (.slice a114_1_115 n114_1_115 c114_1_115) ∧
                            ∃ (a114_2_116 : Option Addr) (n114_2_116 c114_2_116 : Nat), cellAt h62 h5.size 2 = some (.slice a114_2_116 n114_2_116 c114_2_116) ∧
                            ∃ (a114_3_117 : Option Addr) (n114_3_117 c114_3_117 : Nat), cellAt h62 h5.size 3 = some (.slice a114_3_117 n114_3_117 c114_3_117) ∧
                            ∃ (a114_4_118 : Option Addr) (n114_4_118 c114_4_118 : Nat), cellAt h62 h5.size 4 = some (.slice a114_4_118 n114_4_118 c114_4_118) ∧
                            CallsH PP fn_impl_StepBank [.agg ⟨[.slice a114_0_114 n114_0_114 c114_0_114, .slice a114_1_115 n114_1_115 c114_1_115, .slice a114_2_116 n114_2_116 c114_2_116, .slice a114_3_117 n114_3_117 c114_3_117, .slice a114_4_118 n114_4_118 c114_4_118]⟩, .agg ⟨[.int .i64 3, .int .i64 0, .int .i64 0, .int .i64 0]⟩] h62 fun (v119 : Value) (h119 : Heap) =>
                            ∃ (a116_0_0_120 : Option Addr) (n116_0_0_120 c116_0_0_120 : Nat) (a116_0_1_121 : Option Addr) (n116_0_1_121 c116_0_1_121 : Nat) (a116_0_2_122 : Option Addr) (n116_0_2_122 c116_0_2_122 : Nat) (a116_0_3_123 : Option Addr) (n116_0_3_123 c116_0_3_123 : Nat) (a116_0_4_124 : Option Addr) (n116_0_4_124 c116_0_4_124 : Nat), ∃ (t116_1_125 : Bool), v119 = .tuple ⟨[.agg ⟨[.slice a116_0_0_120 n116_0_0_120 c116_0_0_120, .slice a116_0_1_121 n116_0_1_121 c116_0_1_121, .slice a116_0_2_122 n116_0_2_122 c116_0_2_122, .slice a116_0_3_123 n116_0_3_123 c116_0_3_123, .slice a116_0_4_124 n116_0_4_124 c116_0_4_124]⟩, .bool t116_1_125]⟩ ∧
                            ∀ h126 : Heap, h126 = newRowH h119 ty_impl_Bank [.slice none 0 0, .slice none 0 0, .slice none 0 0, .slice none 0 0, .slice none 0 0] →
                            ∃ (e127 : TypeId) (c127 : List Value), Row h126 h119.size e127 c127 ∧ 0 + 5 ≤ c127.length ∧
                            ∀ h128 : Heap, h128 = putRow h126 h119.size e127 (splice c127 0 [.slice a116_0_0_120 n116_0_0_120 c116_0_0_120, .slice a116_0_1_121 n116_0_1_121 c116_0_1_121, .slice a116_0_2_122 n116_0_2_122 c116_0_2_122, .slice a116_0_3_123 n116_0_3_123 c116_0_3_123, .slice a116_0_4_124 n116_0_4_124 c116_0_4_124]) →
                            (((!t116_1_125) = true →
                              R (.bool false) h128) ∧
                            ((!t116_1_125) = false →
                              ∃ (a121_0_129 : Option Addr) (n121_0_129 c121_0_129 : Nat), cellAt h128 h119.size 0 = some (.slice a121_0_129 n121_0_129 c121_0_129) ∧
                              ∃ (a121_1_130 : Option Addr) (n121_1_130 c121_1_130 : Nat), cellAt h128 h119.size 1 = some (.slice a121_1_130 n121_1_130 c121_1_130) ∧
                              ∃ (a121_2_131 : Option Addr) (n121_2_131 c121_2_131 : Nat), cellAt h128 h119.size 2 = some (.slice a121_2_131 n121_2_131 c121_2_131) ∧
                              ∃ (a121_3_132 : Option Addr) (n121_3_132 c121_3_132 : Nat), cellAt h128 h119.size 3 = some (.slice a121_3_132 n121_3_132 c121_3_132) ∧
                              ∃ (a121_4_133 : Option Addr) (n121_4_133 c121_4_133 : Nat), cellAt h128 h119.size 4 = some (.slice a121_4_133 n121_4_133 c121_4_133) ∧
                              ∃ (e134 : TypeId) (c134 : List Value), Row h128 h5.size e134 c134 ∧ 0 + 5 ≤ c134.length ∧
                              ∀ h135 : Heap, h135 = putRow h128 h5.size e134 (splice c134 0 [.slice a121_0_129 n121_0_129 c121_0_129, .slice a121_1_130 n121_1_130 c121_1_130, .slice a121_2_131 n121_2_131 c121_2_131, .slice a121_3_132 n121_3_132 c121_3_132, .slice a121_4_133 n121_4_133 c121_4_133]) →
                              K67 [] h135))) ∧
                          ((!t17_63) = false →
                            K67 [] h62))))))) ∧
                  ((!t81_1_53) = true →
                    R (.bool false) h59))) ∧
                ((!t85_60) = true →
                  R (.bool false) h59))))) ∧
          (t42_2_12 = false →
            R (.bool true) h39))))) ∧
      ((!t59_28) = true →
        R (.bool false) h27))) ∧
    ((!(t42_2_12 == t49_2_23)) = true →
      R (.bool false) h26))))
def plan_laws_FnPictures : Plan := .seq none (.leaf) (.seq none (.seq none (.leaf) (.cond (.seq none (.leaf) (.leaf)) (.leaf))) (.seq none (.leaf) (.seq none (.leaf) (.seq none (.leaf) (.seq none (.seq none (.leaf) (.cond (.seq none (.leaf) (.leaf)) (.leaf))) (.seq none (.seq none (.leaf) (.cond (.seq none (.leaf) (.seq none (.seq none (.leaf) (.block (.loop [(11, .l (.int .i64)), (71, .l (.int .i64))] (.seq none (.leaf) (.seq none (.cond (.leaf) (.leaf)) (.seq none (.block (.seq none (.leaf) (.leaf))) (.leaf))))))) (.seq none (.leaf) (.seq none (.seq none (.leaf) (.cond (.seq none (.leaf) (.leaf)) (.leaf))) (.seq none (.leaf) (.seq none (.leaf) (.seq none (.seq none (.leaf) (.block (.loop [(17, .l (.bool)), (101, .l (.int .i64))] (.seq none (.leaf) (.seq none (.cond (.leaf) (.leaf)) (.seq none (.block (.seq none (.leaf) (.leaf))) (.leaf))))))) (.seq (some []) (.seq none (.leaf) (.cond (.seq none (.leaf) (.seq none (.seq none (.leaf) (.cond (.seq none (.leaf) (.leaf)) (.leaf))) (.leaf))) (.leaf))) (.seq none (.seq none (.leaf) (.block (.loop [(22, .l (.bool))] (.seq none (.seq none (.leaf) (.cond (.leaf) (.leaf))) (.block (.seq none (.leaf) (.seq none (.leaf) (.block (.loop [(22, .l (.bool)), (23, .l (.int .i64))] (.seq none (.seq none (.leaf) (.cond (.leaf) (.leaf))) (.seq none (.block (.seq none (.leaf) (.block (.loop [(22, .l (.bool)), (24, .l (.int .i64))] (.seq none (.seq none (.leaf) (.cond (.leaf) (.leaf))) (.seq none (.block (.seq none (.leaf) (.seq none (.leaf) (.cond (.seq none (.leaf) (.leaf)) (.leaf))))) (.leaf))))))) (.leaf)))))))))))) (.seq none (.leaf) (.seq none (.leaf) (.seq none (.leaf) (.leaf))))))))))))) (.leaf))) (.seq none (.leaf) (.leaf))))))))
theorem tie_laws_FnPictures : (fun (ap0_1 : Option Addr) (np0_1 cp0_1 : Nat) (h : Heap) (R : Value → Heap → Prop) => denF X0 Try.f4 (bodyOf Try.f4) plan_laws_FnPictures [.l (.sl ap0_1 np0_1 cp0_1)] h R) = M_laws_FnPictures := by kernel_rfl
theorem calls_laws_FnPictures (ap0_1 : Option Addr) (np0_1 cp0_1 : Nat) {h : Heap} {R : Value → Heap → Prop} (hm : M_laws_FnPictures ap0_1 np0_1 cp0_1 h R) : CallsH PP fn_laws_FnPictures [.slice ap0_1 np0_1 cp0_1] h R :=
  callsH_of X0ok Try.func4 (by kernel_rfl) plan_laws_FnPictures [.l (.sl ap0_1 np0_1 cp0_1)] (Eq.mpr (congrFun (congrFun (congrFun (congrFun (congrFun tie_laws_FnPictures ap0_1) np0_1) cp0_1) h) R) hm)
/- 25: laws.sameBools -/
def M_laws_sameBools (ap0_1 : Option Addr) (np0_1 cp0_1 : Nat) (ap1_2 : Option Addr) (np1_2 cp1_2 : Nat) (h : Heap) (R : Value → Heap → Prop) : Prop :=
  ((((((np0_1 : Nat) : Int) : Int) != ((np1_2 : Nat) : Int)) = true →
    R (.bool false) h) ∧
  (((((np0_1 : Nat) : Int) : Int) != ((np1_2 : Nat) : Int)) = false →
    ∃ (I3 : List Value → Heap → Prop) (μ3 : List Value → Heap → Nat), I3 [.int .i64 0] h ∧
    ∀ h3 : Heap, ∀ (x13_4 : Int), I3 [.int .i64 x13_4] h3 →
      (((decide ((x13_4 : Int) < ((np0_1 : Nat) : Int))) = true →
        ∃ (b18_5 o18_5 : Nat), ap0_1 = some ⟨b18_5, o18_5, none⟩ ∧ (0 : Int) ≤ x13_4 ∧ (x13_4 : Int) < ((np0_1 : Nat) : Int) ∧
        ∃ (t19_6 : Bool), cellAt h3 b18_5 (o18_5 + x13_4.toNat) = some (.bool t19_6) ∧
        ∃ (b22_7 o22_7 : Nat), ap1_2 = some ⟨b22_7, o22_7, none⟩ ∧ (0 : Int) ≤ x13_4 ∧ (x13_4 : Int) < ((np1_2 : Nat) : Int) ∧
        ∃ (t23_8 : Bool), cellAt h3 b22_7 (o22_7 + x13_4.toNat) = some (.bool t23_8) ∧
        (((!(t19_6 == t23_8)) = true →
          R (.bool false) h3) ∧
        ((!(t19_6 == t23_8)) = false →
          I3 [.int .i64 (IntKind.i64.wrap (x13_4 + 1))] h3 ∧ μ3 [.int .i64 (IntKind.i64.wrap (x13_4 + 1))] h3 < μ3 [.int .i64 x13_4] h3))) ∧
      ((decide ((x13_4 : Int) < ((np0_1 : Nat) : Int))) = false →
        R (.bool true) h3))))
def plan_laws_sameBools : Plan := .seq none (.leaf) (.seq none (.seq none (.leaf) (.cond (.seq none (.leaf) (.leaf)) (.leaf))) (.seq none (.seq none (.leaf) (.block (.loop [(13, .l (.int .i64))] (.seq none (.leaf) (.seq none (.cond (.leaf) (.leaf)) (.seq none (.block (.seq none (.leaf) (.seq none (.draw (.op 0 (.op 1 (.op 2 (.op 3 (.op 4 (.op 5 (.op 6 (.op 7 (.op 8 .done)))))))))) (.cond (.seq none (.leaf) (.leaf)) (.leaf))))) (.leaf))))))) (.seq none (.leaf) (.leaf))))
theorem tie_laws_sameBools : (fun (ap0_1 : Option Addr) (np0_1 cp0_1 : Nat) (ap1_2 : Option Addr) (np1_2 cp1_2 : Nat) (h : Heap) (R : Value → Heap → Prop) => denF X0 Try.f25 (bodyOf Try.f25) plan_laws_sameBools [.l (.sl ap0_1 np0_1 cp0_1), .l (.sl ap1_2 np1_2 cp1_2)] h R) = M_laws_sameBools := by kernel_rfl
theorem calls_laws_sameBools (ap0_1 : Option Addr) (np0_1 cp0_1 : Nat) (ap1_2 : Option Addr) (np1_2 cp1_2 : Nat) {h : Heap} {R : Value → Heap → Prop} (hm : M_laws_sameBools ap0_1 np0_1 cp0_1 ap1_2 np1_2 cp1_2 h R) : CallsH PP fn_laws_sameBools [.slice ap0_1 np0_1 cp0_1, .slice ap1_2 np1_2 cp1_2] h R :=
  callsH_of X0ok Try.func25 (by kernel_rfl) plan_laws_sameBools [.l (.sl ap0_1 np0_1 cp0_1), .l (.sl ap1_2 np1_2 cp1_2)] (Eq.mpr (congrFun (congrFun (congrFun (congrFun (congrFun (congrFun (congrFun (congrFun tie_laws_sameBools ap0_1) np0_1) cp0_1) ap1_2) np1_2) cp1_2) h) R) hm)
/- 26: laws.sameBanks -/
def M_laws_sameBanks (ap0_0_1 : Option Addr) (np0_0_1 cp0_0_1 : Nat) (ap0_1_2 : Option Addr) (np0_1_2 cp0_1_2 : Nat) (ap0_2_3 : Option Addr) (np0_2_3 cp0_2_3 : Nat) (ap0_3_4 : Option Addr) (np0_3_4 cp0_3_4 : Nat) (ap0_4_5 : Option Addr) (np0_4_5 cp0_4_5 : Nat) (ap1_0_6 : Option Addr) (np1_0_6 cp1_0_6 : Nat) (ap1_1_7 : Option Addr) (np1_1_7 cp1_1_7 : Nat) (ap1_2_8 : Option Addr) (np1_2_8 cp1_2_8 : Nat) (ap1_3_9 : Option Addr) (np1_3_9 cp1_3_9 : Nat) (ap1_4_10 : Option Addr) (np1_4_10 cp1_4_10 : Nat) (h : Heap) (R : Value → Heap → Prop) : Prop :=
  ∀ h11 : Heap, h11 = newRowH h ty_impl_Bank [.slice ap0_0_1 np0_0_1 cp0_0_1, .slice ap0_1_2 np0_1_2 cp0_1_2, .slice ap0_2_3 np0_2_3 cp0_2_3, .slice ap0_3_4 np0_3_4 cp0_3_4, .slice ap0_4_5 np0_4_5 cp0_4_5] →
  ∀ h12 : Heap, h12 = newRowH h11 ty_impl_Bank [.slice ap1_0_6 np1_0_6 cp1_0_6, .slice ap1_1_7 np1_1_7 cp1_1_7, .slice ap1_2_8 np1_2_8 cp1_2_8, .slice ap1_3_9 np1_3_9 cp1_3_9, .slice ap1_4_10 np1_4_10 cp1_4_10] →
  ∃ (a7_13 : Option Addr) (n7_13 c7_13 : Nat), cellAt h12 h.size 0 = some (.slice a7_13 n7_13 c7_13) ∧
  ∃ (a9_14 : Option Addr) (n9_14 c9_14 : Nat), cellAt h12 h11.size 0 = some (.slice a9_14 n9_14 c9_14) ∧
  CallsH PP fn_laws_sameInts [.slice a7_13 n7_13 c7_13, .slice a9_14 n9_14 c9_14] h12 fun (v15 : Value) (h15 : Heap) =>
  ∃ (t10_16 : Bool), v15 = .bool t10_16 ∧
  (((!t10_16) = false →
    ∃ (a14_17 : Option Addr) (n14_17 c14_17 : Nat), cellAt h15 h.size 1 = some (.slice a14_17 n14_17 c14_17) ∧
    ∃ (a16_18 : Option Addr) (n16_18 c16_18 : Nat), cellAt h15 h11.size 1 = some (.slice a16_18 n16_18 c16_18) ∧
    CallsH PP fn_laws_sameRows [.slice a14_17 n14_17 c14_17, .slice a16_18 n16_18 c16_18] h15 fun (v19 : Value) (h19 : Heap) =>
    ∃ (t17_20 : Bool), v19 = .bool t17_20 ∧
    (((!t17_20) = false →
      ∃ (a22_21 : Option Addr) (n22_21 c22_21 : Nat), cellAt h19 h.size 2 = some (.slice a22_21 n22_21 c22_21) ∧
      ∃ (a24_22 : Option Addr) (n24_22 c24_22 : Nat), cellAt h19 h11.size 2 = some (.slice a24_22 n24_22 c24_22) ∧
      CallsH PP fn_laws_sameInts [.slice a22_21 n22_21 c22_21, .slice a24_22 n24_22 c24_22] h19 fun (v23 : Value) (h23 : Heap) =>
      ∃ (t25_24 : Bool), v23 = .bool t25_24 ∧
      (((!t25_24) = false →
        ∃ (a30_25 : Option Addr) (n30_25 c30_25 : Nat), cellAt h23 h.size 4 = some (.slice a30_25 n30_25 c30_25) ∧
        ∃ (a32_26 : Option Addr) (n32_26 c32_26 : Nat), cellAt h23 h11.size 4 = some (.slice a32_26 n32_26 c32_26) ∧
        CallsH PP fn_laws_sameRows [.slice a30_25 n30_25 c30_25, .slice a32_26 n32_26 c32_26] h23 fun (v27 : Value) (h27 : Heap) =>
        ∃ (t33_28 : Bool), v27 = .bool t33_28 ∧
        (((!t33_28) = false →
          ∃ (a38_29 : Option Addr) (n38_29 c38_29 : Nat), cellAt h27 h.size 3 = some (.slice a38_29 n38_29 c38_29) ∧
          ∃ (a41_30 : Option Addr) (n41_30 c41_30 : Nat), cellAt h27 h11.size 3 = some (.slice a41_30 n41_30 c41_30) ∧
          ((((((n38_29 : Nat) : Int) : Int) != ((n41_30 : Nat) : Int)) = true →
            R (.bool false) h27) ∧
          (((((n38_29 : Nat) : Int) : Int) != ((n41_30 : Nat) : Int)) = false →
            ∃ (a46_31 : Option Addr) (n46_31 c46_31 : Nat), cellAt h27 h.size 3 = some (.slice a46_31 n46_31 c46_31) ∧
            ∃ (I32 : List Value → Heap → Prop) (μ32 : List Value → Heap → Nat), I32 [.int .i64 0] h27 ∧
            ∀ h32 : Heap, ∀ (x48_33 : Int), I32 [.int .i64 x48_33] h32 →
              (((decide ((x48_33 : Int) < ((n46_31 : Nat) : Int))) = true →
                ∃ (a52_34 : Option Addr) (n52_34 c52_34 : Nat), cellAt h32 h.size 3 = some (.slice a52_34 n52_34 c52_34) ∧
                ∃ (b54_35 o54_35 : Nat), a52_34 = some ⟨b54_35, o54_35, none⟩ ∧ (0 : Int) ≤ x48_33 ∧ (x48_33 : Int) < ((n52_34 : Nat) : Int) ∧
                ∃ (a55_36 : Option Addr) (n55_36 c55_36 : Nat), cellAt h32 b54_35 (o54_35 + x48_33.toNat) = some (.slice a55_36 n55_36 c55_36) ∧
                ∃ (a57_37 : Option Addr) (n57_37 c57_37 : Nat), cellAt h32 h11.size 3 = some (.slice a57_37 n57_37 c57_37) ∧
                ∃ (b59_38 o59_38 : Nat), a57_37 = some ⟨b59_38, o59_38, none⟩ ∧ (0 : Int) ≤ x48_33 ∧ (x48_33 : Int) < ((n57_37 : Nat) : Int) ∧
                ∃ (a60_39 : Option Addr) (n60_39 c60_39 : Nat), cellAt h32 b59_38 (o59_38 + x48_33.toNat) = some (.slice a60_39 n60_39 c60_39) ∧
                CallsH PP fn_laws_sameBools [.slice a55_36 n55_36 c55_36, .slice a60_39 n60_39 c60_39] h32 fun (v40 : Value) (h40 : Heap) =>
                ∃ (t61_41 : Bool), v40 = .bool t61_41 ∧
                (((!t61_41) = true →
                  R (.bool false) h40) ∧
                ((!t61_41) = false →
                  I32 [.int .i64 (IntKind.i64.wrap (x48_33 + 1))] h40 ∧ μ32 [.int .i64 (IntKind.i64.wrap (x48_33 + 1))] h40 < μ32 [.int .i64 x48_33] h32))) ∧
              ((decide ((x48_33 : Int) < ((n46_31 : Nat) : Int))) = false →
                R (.bool true) h32))))) ∧
        ((!t33_28) = true →
          R (.bool false) h27))) ∧
      ((!t25_24) = true →
        R (.bool false) h23))) ∧
    ((!t17_20) = true →
      R (.bool false) h19))) ∧
  ((!t10_16) = true →
    R (.bool false) h15))
def plan_laws_sameBanks : Plan := .seq none (.leaf) (.seq none (.seq none (.leaf) (.cond (.seq none (.leaf) (.leaf)) (.leaf))) (.seq none (.seq none (.leaf) (.block (.loop [(48, .l (.int .i64))] (.seq none (.leaf) (.seq none (.cond (.leaf) (.leaf)) (.seq none (.block (.seq none (.leaf) (.seq none (.draw (.op 0 (.op 1 (.op 2 (.op 3 (.op 4 (.op 5 (.op 6 (.op 7 (.op 8 (.op 9 (.op 10 (.op 11 .done))))))))))))) (.cond (.seq none (.leaf) (.leaf)) (.leaf))))) (.leaf))))))) (.seq none (.leaf) (.leaf))))
theorem tie_laws_sameBanks : (fun (ap0_0_1 : Option Addr) (np0_0_1 cp0_0_1 : Nat) (ap0_1_2 : Option Addr) (np0_1_2 cp0_1_2 : Nat) (ap0_2_3 : Option Addr) (np0_2_3 cp0_2_3 : Nat) (ap0_3_4 : Option Addr) (np0_3_4 cp0_3_4 : Nat) (ap0_4_5 : Option Addr) (np0_4_5 cp0_4_5 : Nat) (ap1_0_6 : Option Addr) (np1_0_6 cp1_0_6 : Nat) (ap1_1_7 : Option Addr) (np1_1_7 cp1_1_7 : Nat) (ap1_2_8 : Option Addr) (np1_2_8 cp1_2_8 : Nat) (ap1_3_9 : Option Addr) (np1_3_9 cp1_3_9 : Nat) (ap1_4_10 : Option Addr) (np1_4_10 cp1_4_10 : Nat) (h : Heap) (R : Value → Heap → Prop) => denF X0 Try.f26 (bodyOf Try.f26) plan_laws_sameBanks [.agg [.sl ap0_0_1 np0_0_1 cp0_0_1, .sl ap0_1_2 np0_1_2 cp0_1_2, .sl ap0_2_3 np0_2_3 cp0_2_3, .sl ap0_3_4 np0_3_4 cp0_3_4, .sl ap0_4_5 np0_4_5 cp0_4_5], .agg [.sl ap1_0_6 np1_0_6 cp1_0_6, .sl ap1_1_7 np1_1_7 cp1_1_7, .sl ap1_2_8 np1_2_8 cp1_2_8, .sl ap1_3_9 np1_3_9 cp1_3_9, .sl ap1_4_10 np1_4_10 cp1_4_10]] h R) = M_laws_sameBanks := by kernel_rfl
theorem calls_laws_sameBanks (ap0_0_1 : Option Addr) (np0_0_1 cp0_0_1 : Nat) (ap0_1_2 : Option Addr) (np0_1_2 cp0_1_2 : Nat) (ap0_2_3 : Option Addr) (np0_2_3 cp0_2_3 : Nat) (ap0_3_4 : Option Addr) (np0_3_4 cp0_3_4 : Nat) (ap0_4_5 : Option Addr) (np0_4_5 cp0_4_5 : Nat) (ap1_0_6 : Option Addr) (np1_0_6 cp1_0_6 : Nat) (ap1_1_7 : Option Addr) (np1_1_7 cp1_1_7 : Nat) (ap1_2_8 : Option Addr) (np1_2_8 cp1_2_8 : Nat) (ap1_3_9 : Option Addr) (np1_3_9 cp1_3_9 : Nat) (ap1_4_10 : Option Addr) (np1_4_10 cp1_4_10 : Nat) {h : Heap} {R : Value → Heap → Prop} (hm : M_laws_sameBanks ap0_0_1 np0_0_1 cp0_0_1 ap0_1_2 np0_1_2 cp0_1_2 ap0_2_3 np0_2_3 cp0_2_3 ap0_3_4 np0_3_4 cp0_3_4 ap0_4_5 np0_4_5 cp0_4_5 ap1_0_6 np1_0_6 cp1_0_6 ap1_1_7 np1_1_7 cp1_1_7 ap1_2_8 np1_2_8 cp1_2_8 ap1_3_9 np1_3_9 cp1_3_9 ap1_4_10 np1_4_10 cp1_4_10 h R) : CallsH PP fn_laws_sameBanks [.agg ⟨[.slice ap0_0_1 np0_0_1 cp0_0_1, .slice ap0_1_2 np0_1_2 cp0_1_2, .slice ap0_2_3 np0_2_3 cp0_2_3, .slice ap0_3_4 np0_3_4 cp0_3_4, .slice ap0_4_5 np0_4_5 cp0_4_5]⟩, .agg ⟨[.slice ap1_0_6 np1_0_6 cp1_0_6, .slice ap1_1_7 np1_1_7 cp1_1_7, .slice ap1_2_8 np1_2_8 cp1_2_8, .slice ap1_3_9 np1_3_9 cp1_3_9, .slice ap1_4_10 np1_4_10 cp1_4_10]⟩] h R :=
  callsH_of X0ok Try.func26 (by kernel_rfl) plan_laws_sameBanks [.agg [.sl ap0_0_1 np0_0_1 cp0_0_1, .sl ap0_1_2 np0_1_2 cp0_1_2, .sl ap0_2_3 np0_2_3 cp0_2_3, .sl ap0_3_4 np0_3_4 cp0_3_4, .sl ap0_4_5 np0_4_5 cp0_4_5], .agg [.sl ap1_0_6 np1_0_6 cp1_0_6, .sl ap1_1_7 np1_1_7 cp1_1_7, .sl ap1_2_8 np1_2_8 cp1_2_8, .sl ap1_3_9 np1_3_9 cp1_3_9, .sl ap1_4_10 np1_4_10 cp1_4_10]] (Eq.mpr (congrFun (congrFun (congrFun (congrFun (congrFun (congrFun (congrFun (congrFun (congrFun (congrFun (congrFun (congrFun (congrFun (congrFun (congrFun (congrFun (congrFun (congrFun (congrFun (congrFun (congrFun (congrFun (congrFun (congrFun (congrFun (congrFun (congrFun (congrFun (congrFun (congrFun (congrFun (congrFun tie_laws_sameBanks ap0_0_1) np0_0_1) cp0_0_1) ap0_1_2) np0_1_2) cp0_1_2) ap0_2_3) np0_2_3) cp0_2_3) ap0_3_4) np0_3_4) cp0_3_4) ap0_4_5) np0_4_5) cp0_4_5) ap1_0_6) np1_0_6) cp1_0_6) ap1_1_7) np1_1_7) cp1_1_7) ap1_2_8) np1_2_8) cp1_2_8) ap1_3_9) np1_3_9) cp1_3_9) ap1_4_10) np1_4_10) cp1_4_10) h) R) hm)
/- 97: laws.sameRows -/
def M_laws_sameRows (ap0_1 : Option Addr) (np0_1 cp0_1 : Nat) (ap1_2 : Option Addr) (np1_2 cp1_2 : Nat) (h : Heap) (R : Value → Heap → Prop) : Prop :=
  ((((((np0_1 : Nat) : Int) : Int) != ((np1_2 : Nat) : Int)) = true →
    R (.bool false) h) ∧
  (((((np0_1 : Nat) : Int) : Int) != ((np1_2 : Nat) : Int)) = false →
    ∃ (I3 : List Value → Heap → Prop) (μ3 : List Value → Heap → Nat), I3 [.int .i64 0] h ∧
    ∀ h3 : Heap, ∀ (x13_4 : Int), I3 [.int .i64 x13_4] h3 →
      (((decide ((x13_4 : Int) < ((np0_1 : Nat) : Int))) = true →
        ∃ (b18_5 o18_5 : Nat), ap0_1 = some ⟨b18_5, o18_5, none⟩ ∧ (0 : Int) ≤ x13_4 ∧ (x13_4 : Int) < ((np0_1 : Nat) : Int) ∧
        ∃ (a19_6 : Option Addr) (n19_6 c19_6 : Nat), cellAt h3 b18_5 (o18_5 + x13_4.toNat) = some (.slice a19_6 n19_6 c19_6) ∧
        ∃ (b22_7 o22_7 : Nat), ap1_2 = some ⟨b22_7, o22_7, none⟩ ∧ (0 : Int) ≤ x13_4 ∧ (x13_4 : Int) < ((np1_2 : Nat) : Int) ∧
        ∃ (a23_8 : Option Addr) (n23_8 c23_8 : Nat), cellAt h3 b22_7 (o22_7 + x13_4.toNat) = some (.slice a23_8 n23_8 c23_8) ∧
        CallsH PP fn_laws_sameInts [.slice a19_6 n19_6 c19_6, .slice a23_8 n23_8 c23_8] h3 fun (v9 : Value) (h9 : Heap) =>
        ∃ (t24_10 : Bool), v9 = .bool t24_10 ∧
        (((!t24_10) = true →
          R (.bool false) h9) ∧
        ((!t24_10) = false →
          I3 [.int .i64 (IntKind.i64.wrap (x13_4 + 1))] h9 ∧ μ3 [.int .i64 (IntKind.i64.wrap (x13_4 + 1))] h9 < μ3 [.int .i64 x13_4] h3))) ∧
      ((decide ((x13_4 : Int) < ((np0_1 : Nat) : Int))) = false →
        R (.bool true) h3))))
def plan_laws_sameRows : Plan := .seq none (.leaf) (.seq none (.seq none (.leaf) (.cond (.seq none (.leaf) (.leaf)) (.leaf))) (.seq none (.seq none (.leaf) (.block (.loop [(13, .l (.int .i64))] (.seq none (.leaf) (.seq none (.cond (.leaf) (.leaf)) (.seq none (.block (.seq none (.leaf) (.seq none (.draw (.op 0 (.op 1 (.op 2 (.op 3 (.op 4 (.op 5 (.op 6 (.op 7 (.op 8 (.op 9 .done))))))))))) (.cond (.seq none (.leaf) (.leaf)) (.leaf))))) (.leaf))))))) (.seq none (.leaf) (.leaf))))
theorem tie_laws_sameRows : (fun (ap0_1 : Option Addr) (np0_1 cp0_1 : Nat) (ap1_2 : Option Addr) (np1_2 cp1_2 : Nat) (h : Heap) (R : Value → Heap → Prop) => denF X0 Try.f97 (bodyOf Try.f97) plan_laws_sameRows [.l (.sl ap0_1 np0_1 cp0_1), .l (.sl ap1_2 np1_2 cp1_2)] h R) = M_laws_sameRows := by kernel_rfl
theorem calls_laws_sameRows (ap0_1 : Option Addr) (np0_1 cp0_1 : Nat) (ap1_2 : Option Addr) (np1_2 cp1_2 : Nat) {h : Heap} {R : Value → Heap → Prop} (hm : M_laws_sameRows ap0_1 np0_1 cp0_1 ap1_2 np1_2 cp1_2 h R) : CallsH PP fn_laws_sameRows [.slice ap0_1 np0_1 cp0_1, .slice ap1_2 np1_2 cp1_2] h R :=
  callsH_of X0ok Try.func97 (by kernel_rfl) plan_laws_sameRows [.l (.sl ap0_1 np0_1 cp0_1), .l (.sl ap1_2 np1_2 cp1_2)] (Eq.mpr (congrFun (congrFun (congrFun (congrFun (congrFun (congrFun (congrFun (congrFun tie_laws_sameRows ap0_1) np0_1) cp0_1) ap1_2) np1_2) cp1_2) h) R) hm)
/- 77: laws.sameInts -/
def M_laws_sameInts (ap0_1 : Option Addr) (np0_1 cp0_1 : Nat) (ap1_2 : Option Addr) (np1_2 cp1_2 : Nat) (h : Heap) (R : Value → Heap → Prop) : Prop :=
  ((((((np0_1 : Nat) : Int) : Int) != ((np1_2 : Nat) : Int)) = true →
    R (.bool false) h) ∧
  (((((np0_1 : Nat) : Int) : Int) != ((np1_2 : Nat) : Int)) = false →
    ∃ (I3 : List Value → Heap → Prop) (μ3 : List Value → Heap → Nat), I3 [.int .i64 0] h ∧
    ∀ h3 : Heap, ∀ (x13_4 : Int), I3 [.int .i64 x13_4] h3 →
      (((decide ((x13_4 : Int) < ((np0_1 : Nat) : Int))) = true →
        ∃ (b18_5 o18_5 : Nat), ap0_1 = some ⟨b18_5, o18_5, none⟩ ∧ (0 : Int) ≤ x13_4 ∧ (x13_4 : Int) < ((np0_1 : Nat) : Int) ∧
        ∃ (x19_6 : Int), cellAt h3 b18_5 (o18_5 + x13_4.toNat) = some (.int .i64 x19_6) ∧
        ∃ (b22_7 o22_7 : Nat), ap1_2 = some ⟨b22_7, o22_7, none⟩ ∧ (0 : Int) ≤ x13_4 ∧ (x13_4 : Int) < ((np1_2 : Nat) : Int) ∧
        ∃ (x23_8 : Int), cellAt h3 b22_7 (o22_7 + x13_4.toNat) = some (.int .i64 x23_8) ∧
        ((((x19_6 : Int) != x23_8) = true →
          R (.bool false) h3) ∧
        (((x19_6 : Int) != x23_8) = false →
          I3 [.int .i64 (IntKind.i64.wrap (x13_4 + 1))] h3 ∧ μ3 [.int .i64 (IntKind.i64.wrap (x13_4 + 1))] h3 < μ3 [.int .i64 x13_4] h3))) ∧
      ((decide ((x13_4 : Int) < ((np0_1 : Nat) : Int))) = false →
        R (.bool true) h3))))
def plan_laws_sameInts : Plan := .seq none (.leaf) (.seq none (.seq none (.leaf) (.cond (.seq none (.leaf) (.leaf)) (.leaf))) (.seq none (.seq none (.leaf) (.block (.loop [(13, .l (.int .i64))] (.seq none (.leaf) (.seq none (.cond (.leaf) (.leaf)) (.seq none (.block (.seq none (.leaf) (.seq none (.draw (.op 0 (.op 1 (.op 2 (.op 3 (.op 4 (.op 5 (.op 6 (.op 7 (.op 8 .done)))))))))) (.cond (.seq none (.leaf) (.leaf)) (.leaf))))) (.leaf))))))) (.seq none (.leaf) (.leaf))))
theorem tie_laws_sameInts : (fun (ap0_1 : Option Addr) (np0_1 cp0_1 : Nat) (ap1_2 : Option Addr) (np1_2 cp1_2 : Nat) (h : Heap) (R : Value → Heap → Prop) => denF X0 Try.f77 (bodyOf Try.f77) plan_laws_sameInts [.l (.sl ap0_1 np0_1 cp0_1), .l (.sl ap1_2 np1_2 cp1_2)] h R) = M_laws_sameInts := by kernel_rfl
theorem calls_laws_sameInts (ap0_1 : Option Addr) (np0_1 cp0_1 : Nat) (ap1_2 : Option Addr) (np1_2 cp1_2 : Nat) {h : Heap} {R : Value → Heap → Prop} (hm : M_laws_sameInts ap0_1 np0_1 cp0_1 ap1_2 np1_2 cp1_2 h R) : CallsH PP fn_laws_sameInts [.slice ap0_1 np0_1 cp0_1, .slice ap1_2 np1_2 cp1_2] h R :=
  callsH_of X0ok Try.func77 (by kernel_rfl) plan_laws_sameInts [.l (.sl ap0_1 np0_1 cp0_1), .l (.sl ap1_2 np1_2 cp1_2)] (Eq.mpr (congrFun (congrFun (congrFun (congrFun (congrFun (congrFun (congrFun (congrFun tie_laws_sameInts ap0_1) np0_1) cp0_1) ap1_2) np1_2) cp1_2) h) R) hm)
/- 24: spec.DrawPlayBank -/
def M_spec_DrawPlayBank (ap0_1 : Option Addr) (np0_1 cp0_1 : Nat) (h : Heap) (R : Value → Heap → Prop) : Prop :=
  ∀ h2 : Heap, h2 = newRowH h ty_spec_l1Cur [.slice ap0_1 np0_1 cp0_1, .int .i64 0, .int .u64 0] →
  CallsH PP fn_spec_l1Cur_coins [.pointer (some ⟨h.size, 0, none⟩)] h2 fun (v3 : Value) (h3 : Heap) =>
  ∃ (a10_4 : Option Addr) (n10_4 c10_4 : Nat), v3 = .slice a10_4 n10_4 c10_4 ∧
  CallsH PP fn_spec_l1Cur_snapSteps [.pointer (some ⟨h.size, 0, none⟩), .int .i64 ((n10_4 : Nat) : Int)] h3 fun (v5 : Value) (h5 : Heap) =>
  ∃ (a15_6 : Option Addr) (n15_6 c15_6 : Nat), v5 = .slice a15_6 n15_6 c15_6 ∧
  R (.tuple ⟨[.slice a10_4 n10_4 c10_4, .slice a15_6 n15_6 c15_6]⟩) h5
def plan_spec_DrawPlayBank : Plan := .seq none (.leaf) (.seq none (.leaf) (.seq none (.leaf) (.seq none (.leaf) (.leaf))))
theorem tie_spec_DrawPlayBank : (fun (ap0_1 : Option Addr) (np0_1 cp0_1 : Nat) (h : Heap) (R : Value → Heap → Prop) => denF X0 Try.f24 (bodyOf Try.f24) plan_spec_DrawPlayBank [.l (.sl ap0_1 np0_1 cp0_1)] h R) = M_spec_DrawPlayBank := by kernel_rfl
theorem calls_spec_DrawPlayBank (ap0_1 : Option Addr) (np0_1 cp0_1 : Nat) {h : Heap} {R : Value → Heap → Prop} (hm : M_spec_DrawPlayBank ap0_1 np0_1 cp0_1 h R) : CallsH PP fn_spec_DrawPlayBank [.slice ap0_1 np0_1 cp0_1] h R :=
  callsH_of X0ok Try.func24 (by kernel_rfl) plan_spec_DrawPlayBank [.l (.sl ap0_1 np0_1 cp0_1)] (Eq.mpr (congrFun (congrFun (congrFun (congrFun (congrFun tie_spec_DrawPlayBank ap0_1) np0_1) cp0_1) h) R) hm)
/- 95: (*spec.l1Cur).coins -/
def M_spec_l1Cur_coins (b0 o0 : Nat) (h : Heap) (R : Value → Heap → Prop) : Prop :=
  CallsH PP fn_spec_l1Cur_pick [.pointer (some ⟨b0, o0, none⟩), .int .i64 4] h fun (v1 : Value) (h1 : Heap) =>
  ∃ (x6_2 : Int), v1 = .int .i64 x6_2 ∧
  ∃ (I3 : List Value → Heap → Prop) (μ3 : List Value → Heap → Nat), I3 [.slice none 0 0, .int .i64 (IntKind.i64.wrap (1 + x6_2))] h1 ∧
  ∀ h3 : Heap, ∀ (a3_4 : Option Addr) (n3_4 c3_4 : Nat), ∀ (x4_5 : Int), I3 [.slice a3_4 n3_4 c3_4, .int .i64 x4_5] h3 →
    (((decide ((x4_5 : Int) > 0)) = true →
      CallsH PP fn_spec_l1Cur_pick [.pointer (some ⟨b0, o0, none⟩), .int .i64 20] h3 fun (v6 : Value) (h6 : Heap) =>
      ∃ (x14_7 : Int), v6 = .int .i64 x14_7 ∧
      ∀ h8 : Heap, h8 = newRowH h6 ty_int [.int .i64 x14_7] →
      appendH h8 ty_int 1 [.int .i64 0] a3_4 n3_4 c3_4 (some ⟨h6.size, 0, none⟩) 1 fun (a16_9 : Option Addr) (n16_9 c16_9 : Nat) (h9 : Heap) =>
      I3 [.slice a16_9 n16_9 c16_9, .int .i64 (IntKind.i64.wrap (x4_5 - 1))] h9 ∧ μ3 [.slice a16_9 n16_9 c16_9, .int .i64 (IntKind.i64.wrap (x4_5 - 1))] h9 < μ3 [.slice a3_4 n3_4 c3_4, .int .i64 x4_5] h3) ∧
    ((decide ((x4_5 : Int) > 0)) = false →
      CallsH PP fn_spec_l1Cur_one [.pointer (some ⟨b0, o0, none⟩), .int .i64 30] h3 fun (v10 : Value) (h10 : Heap) =>
      ∃ (t18_11 : Bool), v10 = .bool t18_11 ∧
      ((t18_11 = true →
        ∀ h12 : Heap, h12 = newRowH h10 ty_int [.int .i64 (-1), .int .i64 50, .int .i64 51] →
        CallsH PP fn_spec_l1Cur_among [.pointer (some ⟨b0, o0, none⟩), .slice (some ⟨h10.size, 0, none⟩) 3 3] h12 fun (v13 : Value) (h13 : Heap) =>
        ∃ (x22_14 : Int), v13 = .int .i64 x22_14 ∧
        ∃ (b23_15 o23_15 : Nat), a3_4 = some ⟨b23_15, o23_15, none⟩ ∧ (0 : Int) ≤ 0 ∧ (0 : Int) < ((n3_4 : Nat) : Int) ∧
        ∃ (e16 : TypeId) (c16 : List Value), Row h13 b23_15 e16 c16 ∧ o23_15 < c16.length ∧
        ∀ h17 : Heap, h17 = putRow h13 b23_15 e16 (c16.set o23_15 (.int .i64 x22_14)) →
        R (.slice a3_4 n3_4 c3_4) h17) ∧
      (t18_11 = false →
        R (.slice a3_4 n3_4 c3_4) h10))))
def plan_spec_l1Cur_coins : Plan := .seq none (.leaf) (.seq none (.leaf) (.seq none (.seq none (.leaf) (.block (.loop [(3, .l (.slice)), (4, .l (.int .i64))] (.seq none (.seq none (.leaf) (.cond (.leaf) (.leaf))) (.seq none (.block (.leaf)) (.leaf)))))) (.seq none (.seq none (.leaf) (.cond (.leaf) (.leaf))) (.seq none (.leaf) (.leaf)))))
theorem tie_spec_l1Cur_coins : (fun (b0 o0 : Nat) (h : Heap) (R : Value → Heap → Prop) => denF X0 Try.f95 (bodyOf Try.f95) plan_spec_l1Cur_coins [.l (.ptrB b0 o0)] h R) = M_spec_l1Cur_coins := by kernel_rfl
theorem calls_spec_l1Cur_coins (b0 o0 : Nat) {h : Heap} {R : Value → Heap → Prop} (hm : M_spec_l1Cur_coins b0 o0 h R) : CallsH PP fn_spec_l1Cur_coins [.pointer (some ⟨b0, o0, none⟩)] h R :=
  callsH_of X0ok Try.func95 (by kernel_rfl) plan_spec_l1Cur_coins [.l (.ptrB b0 o0)] (Eq.mpr (congrFun (congrFun (congrFun (congrFun tie_spec_l1Cur_coins b0) o0) h) R) hm)
/- 96: (*spec.l1Cur).snapSteps -/
def M_spec_l1Cur_snapSteps (b0 o0 : Nat) (xp1_1 : Int) (h : Heap) (R : Value → Heap → Prop) : Prop :=
  CallsH PP fn_spec_l1Cur_pick [.pointer (some ⟨b0, o0, none⟩), .int .i64 50] h fun (v2 : Value) (h2 : Heap) =>
  ∃ (x9_3 : Int), v2 = .int .i64 x9_3 ∧
  ∀ (K4 : List Value → Heap → Prop), (∀ h4 : Heap, ∀ (x6_5 : Int), (
    ∃ (I6 : List Value → Heap → Prop) (μ6 : List Value → Heap → Nat), I6 [.slice none 0 0, .int .i64 x6_5] h4 ∧
    ∀ h6 : Heap, ∀ (a5_7 : Option Addr) (n5_7 c5_7 : Nat), ∀ (x6_8 : Int), I6 [.slice a5_7 n5_7 c5_7, .int .i64 x6_8] h6 →
      (((decide ((x6_8 : Int) > 0)) = true →
        ∀ h9 : Heap, h9 = newRowH h6 ty_int [.int .i64 1, .int .i64 1, .int .i64 1, .int .i64 2, .int .i64 2, .int .i64 2, .int .i64 2, .int .i64 2] →
        CallsH PP fn_spec_l1Cur_among [.pointer (some ⟨b0, o0, none⟩), .slice (some ⟨h6.size, 0, none⟩) 8 8] h9 fun (v10 : Value) (h10 : Heap) =>
        ∃ (x21_11 : Int), v10 = .int .i64 x21_11 ∧
        CallsH PP fn_spec_l1Cur_pick [.pointer (some ⟨b0, o0, none⟩), .int .i64 xp1_1] h10 fun (v12 : Value) (h12 : Heap) =>
        ∃ (x24_13 : Int), v12 = .int .i64 x24_13 ∧
        CallsH PP fn_spec_l1Cur_pick [.pointer (some ⟨b0, o0, none⟩), .int .i64 xp1_1] h12 fun (v14 : Value) (h14 : Heap) =>
        ∃ (x27_15 : Int), v14 = .int .i64 x27_15 ∧
        ∀ h16 : Heap, h16 = newRowH h14 ty_impl_SnapStep [.int .i64 0, .int .i64 0, .int .i64 0, .int .i64 0] →
        ∃ (e17 : TypeId) (c17 : List Value), Row h16 h14.size e17 c17 ∧ 0 + 4 ≤ c17.length ∧
        ∀ h18 : Heap, h18 = putRow h16 h14.size e17 (splice c17 0 [.int .i64 x21_11, .int .i64 x24_13, .int .i64 x27_15, .int .i64 0]) →
        ∀ (K19 : List Value → Heap → Prop), (∀ h19 : Heap, (
          CallsH PP fn_spec_l1Cur_one [.pointer (some ⟨b0, o0, none⟩), .int .i64 12] h19 fun (v20 : Value) (h20 : Heap) =>
          ∃ (t37_21 : Bool), v20 = .bool t37_21 ∧
          ((t37_21 = true →
            CallsH PP fn_spec_l1Cur_pick [.pointer (some ⟨b0, o0, none⟩), .int .i64 xp1_1] h20 fun (v22 : Value) (h22 : Heap) =>
            ∃ (x40_23 : Int), v22 = .int .i64 x40_23 ∧
            ∃ (e24 : TypeId) (c24 : List Value), Row h22 h14.size e24 c24 ∧ 0 + 4 ≤ c24.length ∧
            ∀ h25 : Heap, h25 = putRow h22 h14.size e24 (splice c24 0 [.int .i64 3, .int .i64 x40_23, .int .i64 0, .int .i64 0]) →
            ∃ (x43_0_26 : Int), cellAt h25 h14.size 0 = some (.int .i64 x43_0_26) ∧
            ∃ (x43_1_27 : Int), cellAt h25 h14.size 1 = some (.int .i64 x43_1_27) ∧
            ∃ (x43_2_28 : Int), cellAt h25 h14.size 2 = some (.int .i64 x43_2_28) ∧
            ∃ (x43_3_29 : Int), cellAt h25 h14.size 3 = some (.int .i64 x43_3_29) ∧
            ∀ h30 : Heap, h30 = newRowH h25 ty_impl_SnapStep [.int .i64 x43_0_26, .int .i64 x43_1_27, .int .i64 x43_2_28, .int .i64 x43_3_29] →
            appendH h30 ty_impl_SnapStep 4 [.int .i64 0, .int .i64 0, .int .i64 0, .int .i64 0] a5_7 n5_7 c5_7 (some ⟨h25.size, 0, none⟩) 1 fun (a45_31 : Option Addr) (n45_31 c45_31 : Nat) (h31 : Heap) =>
            I6 [.slice a45_31 n45_31 c45_31, .int .i64 (IntKind.i64.wrap (x6_8 - 1))] h31 ∧ μ6 [.slice a45_31 n45_31 c45_31, .int .i64 (IntKind.i64.wrap (x6_8 - 1))] h31 < μ6 [.slice a5_7 n5_7 c5_7, .int .i64 x6_8] h6) ∧
          (t37_21 = false →
            ∃ (x43_0_32 : Int), cellAt h20 h14.size 0 = some (.int .i64 x43_0_32) ∧
            ∃ (x43_1_33 : Int), cellAt h20 h14.size 1 = some (.int .i64 x43_1_33) ∧
            ∃ (x43_2_34 : Int), cellAt h20 h14.size 2 = some (.int .i64 x43_2_34) ∧
            ∃ (x43_3_35 : Int), cellAt h20 h14.size 3 = some (.int .i64 x43_3_35) ∧
            ∀ h36 : Heap, h36 = newRowH h20 ty_impl_SnapStep [.int .i64 x43_0_32, .int .i64 x43_1_33, .int .i64 x43_2_34, .int .i64 x43_3_35] →
            appendH h36 ty_impl_SnapStep 4 [.int .i64 0, .int .i64 0, .int .i64 0, .int .i64 0] a5_7 n5_7 c5_7 (some ⟨h20.size, 0, none⟩) 1 fun (a45_37 : Option Addr) (n45_37 c45_37 : Nat) (h37 : Heap) =>
            I6 [.slice a45_37 n45_37 c45_37, .int .i64 (IntKind.i64.wrap (x6_8 - 1))] h37 ∧ μ6 [.slice a45_37 n45_37 c45_37, .int .i64 (IntKind.i64.wrap (x6_8 - 1))] h37 < μ6 [.slice a5_7 n5_7 c5_7, .int .i64 x6_8] h6))) → K19 [] h19) →
        ∃ (x30_38 : Int), cellAt h18 h14.size 0 = some (.int .i64 x30_38) ∧
        ((((x30_38 : Int) == 1) = true →
          CallsH PP fn_spec_l1Cur_pick [.pointer (some ⟨b0, o0, none⟩), .int .i64 5] h18 fun (v39 : Value) (h39 : Heap) =>
          ∃ (x33_40 : Int), v39 = .int .i64 x33_40 ∧
          ∃ (e41 : TypeId) (c41 : List Value), Row h39 h14.size e41 c41 ∧ 3 < c41.length ∧
          ∀ h42 : Heap, h42 = putRow h39 h14.size e41 (c41.set 3 (.int .i64 (IntKind.i64.wrap (1 + x33_40)))) →
          K19 [] h42) ∧
        (((x30_38 : Int) == 1) = false →
          K19 [] h18))) ∧
      ((decide ((x6_8 : Int) > 0)) = false →
        ∀ (K43 : List Value → Heap → Prop), (∀ h43 : Heap, ∀ (t52_44 : Bool), (
          ((t52_44 = true →
            CallsH PP fn_spec_l1Cur_pick [.pointer (some ⟨b0, o0, none⟩), .int .i64 5] h43 fun (v45 : Value) (h45 : Heap) =>
            ∃ (x55_46 : Int), v45 = .int .i64 x55_46 ∧
            CallsH PP fn_spec_l1Cur_pick [.pointer (some ⟨b0, o0, none⟩), .int .i64 7] h45 fun (v47 : Value) (h47 : Heap) =>
            ∃ (x57_48 : Int), v47 = .int .i64 x57_48 ∧
            CallsH PP fn_spec_l1Cur_pick [.pointer (some ⟨b0, o0, none⟩), .int .i64 7] h47 fun (v49 : Value) (h49 : Heap) =>
            ∃ (x60_50 : Int), v49 = .int .i64 x60_50 ∧
            CallsH PP fn_spec_l1Cur_pick [.pointer (some ⟨b0, o0, none⟩), .int .i64 60] h49 fun (v51 : Value) (h51 : Heap) =>
            ∃ (x63_52 : Int), v51 = .int .i64 x63_52 ∧
            ∃ (b65_53 o65_53 : Nat), a5_7 = some ⟨b65_53, o65_53, none⟩ ∧ (0 : Int) ≤ 0 ∧ (0 : Int) < ((n5_7 : Nat) : Int) ∧
            ∃ (e54 : TypeId) (c54 : List Value), Row h51 b65_53 e54 c54 ∧ o65_53 + 4 ≤ c54.length ∧
            ∀ h55 : Heap, h55 = putRow h51 b65_53 e54 (splice c54 o65_53 [.int .i64 x55_46, .int .i64 (IntKind.i64.wrap (x57_48 - 1)), .int .i64 (IntKind.i64.wrap (x60_50 - 1)), .int .i64 x63_52]) →
            R (.slice a5_7 n5_7 c5_7) h55) ∧
          (t52_44 = false →
            R (.slice a5_7 n5_7 c5_7) h43))) → K43 [.bool t52_44] h43) →
        (((decide ((((n5_7 : Nat) : Int) : Int) > 0)) = true →
          CallsH PP fn_spec_l1Cur_one [.pointer (some ⟨b0, o0, none⟩), .int .i64 30] h6 fun (v56 : Value) (h56 : Heap) =>
          ∃ (t51_57 : Bool), v56 = .bool t51_57 ∧
          K43 [.bool t51_57] h56) ∧
        ((decide ((((n5_7 : Nat) : Int) : Int) > 0)) = false →
          K43 [.bool false] h6))))) → K4 [.int .i64 x6_5] h4) →
  CallsH PP fn_spec_l1Cur_one [.pointer (some ⟨b0, o0, none⟩), .int .i64 12] h2 fun (v58 : Value) (h58 : Heap) =>
  ∃ (t11_59 : Bool), v58 = .bool t11_59 ∧
  ((t11_59 = true →
    CallsH PP fn_spec_l1Cur_pick [.pointer (some ⟨b0, o0, none⟩), .int .i64 3] h58 fun (v60 : Value) (h60 : Heap) =>
    ∃ (x13_61 : Int), v60 = .int .i64 x13_61 ∧
    K4 [.int .i64 (IntKind.i64.wrap (119 + x13_61))] h60) ∧
  (t11_59 = false →
    K4 [.int .i64 x9_3] h58))
def plan_spec_l1Cur_snapSteps : Plan := .seq none (.leaf) (.seq none (.leaf) (.seq none (.leaf) (.seq (some [(6, .l (.int .i64))]) (.seq none (.leaf) (.cond (.leaf) (.leaf))) (.seq none (.block (.loop [(5, .l (.slice)), (6, .l (.int .i64))] (.seq none (.seq none (.leaf) (.cond (.leaf) (.leaf))) (.seq none (.block (.seq none (.leaf) (.seq (some []) (.seq none (.leaf) (.cond (.leaf) (.leaf))) (.seq none (.seq none (.leaf) (.cond (.leaf) (.leaf))) (.leaf))))) (.leaf))))) (.seq none (.seq (some [(52, .l (.bool))]) (.leaf) (.cond (.leaf) (.leaf))) (.seq none (.leaf) (.leaf)))))))
theorem tie_spec_l1Cur_snapSteps : (fun (b0 o0 : Nat) (xp1_1 : Int) (h : Heap) (R : Value → Heap → Prop) => denF X0 Try.f96 (bodyOf Try.f96) plan_spec_l1Cur_snapSteps [.l (.ptrB b0 o0), .l (.int .i64 xp1_1)] h R) = M_spec_l1Cur_snapSteps := by kernel_rfl
theorem calls_spec_l1Cur_snapSteps (b0 o0 : Nat) (xp1_1 : Int) {h : Heap} {R : Value → Heap → Prop} (hm : M_spec_l1Cur_snapSteps b0 o0 xp1_1 h R) : CallsH PP fn_spec_l1Cur_snapSteps [.pointer (some ⟨b0, o0, none⟩), .int .i64 xp1_1] h R :=
  callsH_of X0ok Try.func96 (by kernel_rfl) plan_spec_l1Cur_snapSteps [.l (.ptrB b0 o0), .l (.int .i64 xp1_1)] (Eq.mpr (congrFun (congrFun (congrFun (congrFun (congrFun tie_spec_l1Cur_snapSteps b0) o0) xp1_1) h) R) hm)
/- 126: (*spec.l1Cur).pick -/
def M_spec_l1Cur_pick (b0 o0 : Nat) (xp1_1 : Int) (h : Heap) (R : Value → Heap → Prop) : Prop :=
  (((decide ((xp1_1 : Int) ≤ 1)) = true →
    R (.int .i64 0) h) ∧
  ((decide ((xp1_1 : Int) ≤ 1)) = false →
    CallsH PP fn_spec_l1Cur_next [.pointer (some ⟨b0, o0, none⟩)] h fun (v2 : Value) (h2 : Heap) =>
    ∃ (x9_3 : Int), v2 = .int .i64 x9_3 ∧
    (((decide ((xp1_1 : Int) > 200)) = true →
      CallsH PP fn_spec_l1Cur_next [.pointer (some ⟨b0, o0, none⟩)] h2 fun (v4 : Value) (h4 : Heap) =>
      ∃ (x15_5 : Int), v4 = .int .i64 x15_5 ∧
      (xp1_1 : Int) ≠ 0 ∧
      R (.int .i64 (Int.tmod (IntKind.i64.wrap ((IntKind.i64.wrap (x9_3 * 256)) + x15_5)) xp1_1)) h4) ∧
    ((decide ((xp1_1 : Int) > 200)) = false →
      (xp1_1 : Int) ≠ 0 ∧
      R (.int .i64 (Int.tmod x9_3 xp1_1)) h2))))
def plan_spec_l1Cur_pick : Plan := .seq none (.leaf) (.seq none (.seq none (.leaf) (.cond (.seq none (.leaf) (.leaf)) (.leaf))) (.seq none (.leaf) (.seq none (.seq none (.leaf) (.cond (.leaf) (.leaf))) (.seq none (.leaf) (.leaf)))))
theorem tie_spec_l1Cur_pick : (fun (b0 o0 : Nat) (xp1_1 : Int) (h : Heap) (R : Value → Heap → Prop) => denF X0 Try.f126 (bodyOf Try.f126) plan_spec_l1Cur_pick [.l (.ptrB b0 o0), .l (.int .i64 xp1_1)] h R) = M_spec_l1Cur_pick := by kernel_rfl
theorem calls_spec_l1Cur_pick (b0 o0 : Nat) (xp1_1 : Int) {h : Heap} {R : Value → Heap → Prop} (hm : M_spec_l1Cur_pick b0 o0 xp1_1 h R) : CallsH PP fn_spec_l1Cur_pick [.pointer (some ⟨b0, o0, none⟩), .int .i64 xp1_1] h R :=
  callsH_of X0ok Try.func126 (by kernel_rfl) plan_spec_l1Cur_pick [.l (.ptrB b0 o0), .l (.int .i64 xp1_1)] (Eq.mpr (congrFun (congrFun (congrFun (congrFun (congrFun tie_spec_l1Cur_pick b0) o0) xp1_1) h) R) hm)
/- 134: (*spec.l1Cur).one -/
def M_spec_l1Cur_one (b0 o0 : Nat) (xp1_1 : Int) (h : Heap) (R : Value → Heap → Prop) : Prop :=
  CallsH PP fn_spec_l1Cur_pick [.pointer (some ⟨b0, o0, none⟩), .int .i64 xp1_1] h fun (v2 : Value) (h2 : Heap) =>
  ∃ (x7_3 : Int), v2 = .int .i64 x7_3 ∧
  R (.bool ((x7_3 : Int) == 0)) h2
def plan_spec_l1Cur_one : Plan := .seq none (.leaf) (.seq none (.leaf) (.leaf))
theorem tie_spec_l1Cur_one : (fun (b0 o0 : Nat) (xp1_1 : Int) (h : Heap) (R : Value → Heap → Prop) => denF X0 Try.f134 (bodyOf Try.f134) plan_spec_l1Cur_one [.l (.ptrB b0 o0), .l (.int .i64 xp1_1)] h R) = M_spec_l1Cur_one := by kernel_rfl
theorem calls_spec_l1Cur_one (b0 o0 : Nat) (xp1_1 : Int) {h : Heap} {R : Value → Heap → Prop} (hm : M_spec_l1Cur_one b0 o0 xp1_1 h R) : CallsH PP fn_spec_l1Cur_one [.pointer (some ⟨b0, o0, none⟩), .int .i64 xp1_1] h R :=
  callsH_of X0ok Try.func134 (by kernel_rfl) plan_spec_l1Cur_one [.l (.ptrB b0 o0), .l (.int .i64 xp1_1)] (Eq.mpr (congrFun (congrFun (congrFun (congrFun (congrFun tie_spec_l1Cur_one b0) o0) xp1_1) h) R) hm)
/- 145: (*spec.l1Cur).among -/
def M_spec_l1Cur_among (b0 o0 : Nat) (ap1_1 : Option Addr) (np1_1 cp1_1 : Nat) (h : Heap) (R : Value → Heap → Prop) : Prop :=
  CallsH PP fn_spec_l1Cur_pick [.pointer (some ⟨b0, o0, none⟩), .int .i64 ((np1_1 : Nat) : Int)] h fun (v2 : Value) (h2 : Heap) =>
  ∃ (x9_3 : Int), v2 = .int .i64 x9_3 ∧
  ∃ (b10_4 o10_4 : Nat), ap1_1 = some ⟨b10_4, o10_4, none⟩ ∧ (0 : Int) ≤ x9_3 ∧ (x9_3 : Int) < ((np1_1 : Nat) : Int) ∧
  ∃ (x11_5 : Int), cellAt h2 b10_4 (o10_4 + x9_3.toNat) = some (.int .i64 x11_5) ∧
  R (.int .i64 x11_5) h2
def plan_spec_l1Cur_among : Plan := .seq none (.leaf) (.seq none (.leaf) (.leaf))
theorem tie_spec_l1Cur_among : (fun (b0 o0 : Nat) (ap1_1 : Option Addr) (np1_1 cp1_1 : Nat) (h : Heap) (R : Value → Heap → Prop) => denF X0 Try.f145 (bodyOf Try.f145) plan_spec_l1Cur_among [.l (.ptrB b0 o0), .l (.sl ap1_1 np1_1 cp1_1)] h R) = M_spec_l1Cur_among := by kernel_rfl
theorem calls_spec_l1Cur_among (b0 o0 : Nat) (ap1_1 : Option Addr) (np1_1 cp1_1 : Nat) {h : Heap} {R : Value → Heap → Prop} (hm : M_spec_l1Cur_among b0 o0 ap1_1 np1_1 cp1_1 h R) : CallsH PP fn_spec_l1Cur_among [.pointer (some ⟨b0, o0, none⟩), .slice ap1_1 np1_1 cp1_1] h R :=
  callsH_of X0ok Try.func145 (by kernel_rfl) plan_spec_l1Cur_among [.l (.ptrB b0 o0), .l (.sl ap1_1 np1_1 cp1_1)] (Eq.mpr (congrFun (congrFun (congrFun (congrFun (congrFun (congrFun (congrFun tie_spec_l1Cur_among b0) o0) ap1_1) np1_1) cp1_1) h) R) hm)
/- 188: (*spec.l1Cur).next -/
def M_spec_l1Cur_next (b0 o0 : Nat) (h : Heap) (R : Value → Heap → Prop) : Prop :=
  ∀ (K1 : List Value → Heap → Prop), (∀ h1 : Heap, ∀ (x3_2 : Int), (
    ∃ (x28_3 : Int), cellAt h1 b0 (o0 + 1) = some (.int .i64 x28_3) ∧
    ∃ (e4 : TypeId) (c4 : List Value), Row h1 b0 e4 c4 ∧ o0 + 1 < c4.length ∧
    ∀ h5 : Heap, h5 = putRow h1 b0 e4 (c4.set (o0 + 1) (.int .i64 (IntKind.i64.wrap (x28_3 + 1)))) →
    ∃ (x36_6 : Int), cellAt h5 b0 (o0 + 2) = some (.int .u64 x36_6) ∧
    ∃ (e7 : TypeId) (c7 : List Value), Row h5 b0 e7 c7 ∧ o0 + 2 < c7.length ∧
    ∀ h8 : Heap, h8 = putRow h5 b0 e7 (c7.set (o0 + 2) (.int .u64 (IntKind.u64.wrap ((IntKind.u64.wrap ((IntKind.u64.wrap (x36_6 * 6364136223846793005)) + (IntKind.u64.wrap x3_2))) + 1442695040888963407)))) →
    ∃ (x47_9 : Int), cellAt h8 b0 (o0 + 1) = some (.int .i64 x47_9) ∧
    ∃ (a51_10 : Option Addr) (n51_10 c51_10 : Nat), cellAt h8 b0 o0 = some (.slice a51_10 n51_10 c51_10) ∧
    (((decide ((x47_9 : Int) ≤ ((n51_10 : Nat) : Int))) = true →
      R (.int .i64 x3_2) h8) ∧
    ((decide ((x47_9 : Int) ≤ ((n51_10 : Nat) : Int))) = false →
      ∃ (x58_11 : Int), cellAt h8 b0 (o0 + 2) = some (.int .u64 x58_11) ∧
      (0 : Int) ≤ 40 ∧
      R (.int .i64 (IntKind.i64.wrap (bitsI .and .u64 (Int.fdiv x58_11 (2 ^ min 40 (IntKind.bits .u64))) 255))) h8))) → K1 [.int .i64 x3_2] h1) →
  ∃ (x7_12 : Int), cellAt h b0 (o0 + 1) = some (.int .i64 x7_12) ∧
  ∃ (a11_13 : Option Addr) (n11_13 c11_13 : Nat), cellAt h b0 o0 = some (.slice a11_13 n11_13 c11_13) ∧
  (((decide ((x7_12 : Int) < ((n11_13 : Nat) : Int))) = true →
    ∃ (a17_14 : Option Addr) (n17_14 c17_14 : Nat), cellAt h b0 o0 = some (.slice a17_14 n17_14 c17_14) ∧
    ∃ (x21_15 : Int), cellAt h b0 (o0 + 1) = some (.int .i64 x21_15) ∧
    ∃ (b22_16 o22_16 : Nat), a17_14 = some ⟨b22_16, o22_16, none⟩ ∧ (0 : Int) ≤ x21_15 ∧ (x21_15 : Int) < ((n17_14 : Nat) : Int) ∧
    ∃ (x23_17 : Int), cellAt h b22_16 (o22_16 + x21_15.toNat) = some (.int .u8 x23_17) ∧
    K1 [.int .i64 (IntKind.i64.wrap x23_17)] h) ∧
  ((decide ((x7_12 : Int) < ((n11_13 : Nat) : Int))) = false →
    K1 [.int .i64 0] h))
def plan_spec_l1Cur_next : Plan := .seq none (.leaf) (.seq none (.leaf) (.seq (some [(3, .l (.int .i64))]) (.seq none (.draw (.op 0 (.op 1 (.op 2 (.op 3 (.op 4 (.op 5 (.op 6 (.op 7 (.op 8 (.op 9 .done))))))))))) (.cond (.draw (.op 0 (.op 1 (.op 2 (.op 3 (.op 4 (.op 5 (.op 6 (.op 7 (.op 8 (.op 9 (.op 10 (.op 11 .done))))))))))))) (.leaf))) (.seq none (.leaf) (.seq none (.leaf) (.seq none (.seq none (.draw (.op 0 (.op 1 (.op 2 (.op 3 (.op 4 (.op 5 (.op 6 (.op 7 (.op 8 (.op 9 .done))))))))))) (.cond (.seq none (.leaf) (.leaf)) (.leaf))) (.seq none (.leaf) (.leaf)))))))
theorem tie_spec_l1Cur_next : (fun (b0 o0 : Nat) (h : Heap) (R : Value → Heap → Prop) => denF X0 Try.f188 (bodyOf Try.f188) plan_spec_l1Cur_next [.l (.ptrB b0 o0)] h R) = M_spec_l1Cur_next := by kernel_rfl
theorem calls_spec_l1Cur_next (b0 o0 : Nat) {h : Heap} {R : Value → Heap → Prop} (hm : M_spec_l1Cur_next b0 o0 h R) : CallsH PP fn_spec_l1Cur_next [.pointer (some ⟨b0, o0, none⟩)] h R :=
  callsH_of X0ok Try.func188 (by kernel_rfl) plan_spec_l1Cur_next [.l (.ptrB b0 o0)] (Eq.mpr (congrFun (congrFun (congrFun (congrFun tie_spec_l1Cur_next b0) o0) h) R) hm)
/- 27: impl.TotalIn -/
def M_impl_TotalIn (ap0_0_1 : Option Addr) (np0_0_1 cp0_0_1 : Nat) (ap0_1_2 : Option Addr) (np0_1_2 cp0_1_2 : Nat) (ap0_2_3 : Option Addr) (np0_2_3 cp0_2_3 : Nat) (ap0_3_4 : Option Addr) (np0_3_4 cp0_3_4 : Nat) (ap0_4_5 : Option Addr) (np0_4_5 cp0_4_5 : Nat) (h : Heap) (R : Value → Heap → Prop) : Prop :=
  ∀ h6 : Heap, h6 = newRowH h ty_impl_Bank [.slice ap0_0_1 np0_0_1 cp0_0_1, .slice ap0_1_2 np0_1_2 cp0_1_2, .slice ap0_2_3 np0_2_3 cp0_2_3, .slice ap0_3_4 np0_3_4 cp0_3_4, .slice ap0_4_5 np0_4_5 cp0_4_5] →
  ∃ (a7_0_7 : Option Addr) (n7_0_7 c7_0_7 : Nat), cellAt h6 h.size 0 = some (.slice a7_0_7 n7_0_7 c7_0_7) ∧
  ∃ (a7_1_8 : Option Addr) (n7_1_8 c7_1_8 : Nat), cellAt h6 h.size 1 = some (.slice a7_1_8 n7_1_8 c7_1_8) ∧
  ∃ (a7_2_9 : Option Addr) (n7_2_9 c7_2_9 : Nat), cellAt h6 h.size 2 = some (.slice a7_2_9 n7_2_9 c7_2_9) ∧
  ∃ (a7_3_10 : Option Addr) (n7_3_10 c7_3_10 : Nat), cellAt h6 h.size 3 = some (.slice a7_3_10 n7_3_10 c7_3_10) ∧
  ∃ (a7_4_11 : Option Addr) (n7_4_11 c7_4_11 : Nat), cellAt h6 h.size 4 = some (.slice a7_4_11 n7_4_11 c7_4_11) ∧
  CallsH PP fn_impl_isBank [.agg ⟨[.slice a7_0_7 n7_0_7 c7_0_7, .slice a7_1_8 n7_1_8 c7_1_8, .slice a7_2_9 n7_2_9 c7_2_9, .slice a7_3_10 n7_3_10 c7_3_10, .slice a7_4_11 n7_4_11 c7_4_11]⟩] h6 fun (v12 : Value) (h12 : Heap) =>
  ∃ (t8_13 : Bool), v12 = .bool t8_13 ∧
  (((!t8_13) = true →
    R (.tuple ⟨[.int .i64 0, .bool false]⟩) h12) ∧
  ((!t8_13) = false →
    ∃ (a11_14 : Option Addr) (n11_14 c11_14 : Nat), cellAt h12 h.size 0 = some (.slice a11_14 n11_14 c11_14) ∧
    ∃ (a13_15 : Option Addr) (n13_15 c13_15 : Nat), cellAt h12 h.size 1 = some (.slice a13_15 n13_15 c13_15) ∧
    CallsH PP fn_slices_Concat_int [.slice a13_15 n13_15 c13_15] h12 fun (v16 : Value) (h16 : Heap) =>
    ∃ (a14_17 : Option Addr) (n14_17 c14_17 : Nat), v16 = .slice a14_17 n14_17 c14_17 ∧
    cellAt h16 h.size 0 = some (.slice a11_14 n11_14 c11_14) ∧
    ∀ h18 : Heap, h18 = newRowH h16 ty_S_int [.slice a11_14 n11_14 c11_14, .slice a14_17 n14_17 c14_17] →
    CallsH PP fn_slices_Concat_int [.slice (some ⟨h16.size, 0, none⟩) 2 2] h18 fun (v19 : Value) (h19 : Heap) =>
    ∃ (a16_20 : Option Addr) (n16_20 c16_20 : Nat), v19 = .slice a16_20 n16_20 c16_20 ∧
    ∃ (I21 : List Value → Heap → Prop) (μ21 : List Value → Heap → Nat), I21 [.int .i64 0, .int .i64 0] h19 ∧
    ∀ h21 : Heap, ∀ (x4_22 : Int), ∀ (x18_23 : Int), I21 [.int .i64 x4_22, .int .i64 x18_23] h21 →
      (((decide ((x18_23 : Int) < ((n16_20 : Nat) : Int))) = true →
        ∃ (b20_24 o20_24 : Nat), a16_20 = some ⟨b20_24, o20_24, none⟩ ∧ (0 : Int) ≤ x18_23 ∧ (x18_23 : Int) < ((n16_20 : Nat) : Int) ∧
        ∃ (x21_25 : Int), cellAt h21 b20_24 (o20_24 + x18_23.toNat) = some (.int .i64 x21_25) ∧
        I21 [.int .i64 (IntKind.i64.wrap (x4_22 + x21_25)), .int .i64 (IntKind.i64.wrap (x18_23 + 1))] h21 ∧ μ21 [.int .i64 (IntKind.i64.wrap (x4_22 + x21_25)), .int .i64 (IntKind.i64.wrap (x18_23 + 1))] h21 < μ21 [.int .i64 x4_22, .int .i64 x18_23] h21) ∧
      ((decide ((x18_23 : Int) < ((n16_20 : Nat) : Int))) = false →
        R (.tuple ⟨[.int .i64 x4_22, .bool true]⟩) h21))))
def plan_impl_TotalIn : Plan := .seq none (.leaf) (.seq none (.seq none (.leaf) (.cond (.seq none (.leaf) (.leaf)) (.leaf))) (.seq none (.leaf) (.seq none (.seq none (.draw (.op 0 (.op 1 (.op 2 (.op 3 (.op 8 (.op 4 (.op 5 (.op 6 (.op 7 .done)))))))))) (.block (.loop [(4, .l (.int .i64)), (18, .l (.int .i64))] (.seq none (.leaf) (.seq none (.cond (.leaf) (.leaf)) (.seq none (.block (.seq none (.leaf) (.leaf))) (.leaf))))))) (.seq none (.leaf) (.leaf)))))
theorem tie_impl_TotalIn : (fun (ap0_0_1 : Option Addr) (np0_0_1 cp0_0_1 : Nat) (ap0_1_2 : Option Addr) (np0_1_2 cp0_1_2 : Nat) (ap0_2_3 : Option Addr) (np0_2_3 cp0_2_3 : Nat) (ap0_3_4 : Option Addr) (np0_3_4 cp0_3_4 : Nat) (ap0_4_5 : Option Addr) (np0_4_5 cp0_4_5 : Nat) (h : Heap) (R : Value → Heap → Prop) => denF X0 Try.f27 (bodyOf Try.f27) plan_impl_TotalIn [.agg [.sl ap0_0_1 np0_0_1 cp0_0_1, .sl ap0_1_2 np0_1_2 cp0_1_2, .sl ap0_2_3 np0_2_3 cp0_2_3, .sl ap0_3_4 np0_3_4 cp0_3_4, .sl ap0_4_5 np0_4_5 cp0_4_5]] h R) = M_impl_TotalIn := by kernel_rfl
theorem calls_impl_TotalIn (ap0_0_1 : Option Addr) (np0_0_1 cp0_0_1 : Nat) (ap0_1_2 : Option Addr) (np0_1_2 cp0_1_2 : Nat) (ap0_2_3 : Option Addr) (np0_2_3 cp0_2_3 : Nat) (ap0_3_4 : Option Addr) (np0_3_4 cp0_3_4 : Nat) (ap0_4_5 : Option Addr) (np0_4_5 cp0_4_5 : Nat) {h : Heap} {R : Value → Heap → Prop} (hm : M_impl_TotalIn ap0_0_1 np0_0_1 cp0_0_1 ap0_1_2 np0_1_2 cp0_1_2 ap0_2_3 np0_2_3 cp0_2_3 ap0_3_4 np0_3_4 cp0_3_4 ap0_4_5 np0_4_5 cp0_4_5 h R) : CallsH PP fn_impl_TotalIn [.agg ⟨[.slice ap0_0_1 np0_0_1 cp0_0_1, .slice ap0_1_2 np0_1_2 cp0_1_2, .slice ap0_2_3 np0_2_3 cp0_2_3, .slice ap0_3_4 np0_3_4 cp0_3_4, .slice ap0_4_5 np0_4_5 cp0_4_5]⟩] h R :=
  callsH_of X0ok Try.func27 (by kernel_rfl) plan_impl_TotalIn [.agg [.sl ap0_0_1 np0_0_1 cp0_0_1, .sl ap0_1_2 np0_1_2 cp0_1_2, .sl ap0_2_3 np0_2_3 cp0_2_3, .sl ap0_3_4 np0_3_4 cp0_3_4, .sl ap0_4_5 np0_4_5 cp0_4_5]] (Eq.mpr (congrFun (congrFun (congrFun (congrFun (congrFun (congrFun (congrFun (congrFun (congrFun (congrFun (congrFun (congrFun (congrFun (congrFun (congrFun (congrFun (congrFun tie_impl_TotalIn ap0_0_1) np0_0_1) cp0_0_1) ap0_1_2) np0_1_2) cp0_1_2) ap0_2_3) np0_2_3) cp0_2_3) ap0_3_4) np0_3_4) cp0_3_4) ap0_4_5) np0_4_5) cp0_4_5) h) R) hm)
/- 28: impl.GoodBank -/
def M_impl_GoodBank (ap0_0_1 : Option Addr) (np0_0_1 cp0_0_1 : Nat) (ap0_1_2 : Option Addr) (np0_1_2 cp0_1_2 : Nat) (ap0_2_3 : Option Addr) (np0_2_3 cp0_2_3 : Nat) (ap0_3_4 : Option Addr) (np0_3_4 cp0_3_4 : Nat) (ap0_4_5 : Option Addr) (np0_4_5 cp0_4_5 : Nat) (h : Heap) (R : Value → Heap → Prop) : Prop :=
  ∀ h6 : Heap, h6 = newRowH h ty_impl_Bank [.slice ap0_0_1 np0_0_1 cp0_0_1, .slice ap0_1_2 np0_1_2 cp0_1_2, .slice ap0_2_3 np0_2_3 cp0_2_3, .slice ap0_3_4 np0_3_4 cp0_3_4, .slice ap0_4_5 np0_4_5 cp0_4_5] →
  ∃ (a3_0_7 : Option Addr) (n3_0_7 c3_0_7 : Nat), cellAt h6 h.size 0 = some (.slice a3_0_7 n3_0_7 c3_0_7) ∧
  ∃ (a3_1_8 : Option Addr) (n3_1_8 c3_1_8 : Nat), cellAt h6 h.size 1 = some (.slice a3_1_8 n3_1_8 c3_1_8) ∧
  ∃ (a3_2_9 : Option Addr) (n3_2_9 c3_2_9 : Nat), cellAt h6 h.size 2 = some (.slice a3_2_9 n3_2_9 c3_2_9) ∧
  ∃ (a3_3_10 : Option Addr) (n3_3_10 c3_3_10 : Nat), cellAt h6 h.size 3 = some (.slice a3_3_10 n3_3_10 c3_3_10) ∧
  ∃ (a3_4_11 : Option Addr) (n3_4_11 c3_4_11 : Nat), cellAt h6 h.size 4 = some (.slice a3_4_11 n3_4_11 c3_4_11) ∧
  CallsH PP fn_impl_isBank [.agg ⟨[.slice a3_0_7 n3_0_7 c3_0_7, .slice a3_1_8 n3_1_8 c3_1_8, .slice a3_2_9 n3_2_9 c3_2_9, .slice a3_3_10 n3_3_10 c3_3_10, .slice a3_4_11 n3_4_11 c3_4_11]⟩] h6 fun (v12 : Value) (h12 : Heap) =>
  ∃ (t4_13 : Bool), v12 = .bool t4_13 ∧
  R (.bool t4_13) h12
def plan_impl_GoodBank : Plan := .seq none (.leaf) (.seq none (.leaf) (.leaf))
theorem tie_impl_GoodBank : (fun (ap0_0_1 : Option Addr) (np0_0_1 cp0_0_1 : Nat) (ap0_1_2 : Option Addr) (np0_1_2 cp0_1_2 : Nat) (ap0_2_3 : Option Addr) (np0_2_3 cp0_2_3 : Nat) (ap0_3_4 : Option Addr) (np0_3_4 cp0_3_4 : Nat) (ap0_4_5 : Option Addr) (np0_4_5 cp0_4_5 : Nat) (h : Heap) (R : Value → Heap → Prop) => denF X0 Try.f28 (bodyOf Try.f28) plan_impl_GoodBank [.agg [.sl ap0_0_1 np0_0_1 cp0_0_1, .sl ap0_1_2 np0_1_2 cp0_1_2, .sl ap0_2_3 np0_2_3 cp0_2_3, .sl ap0_3_4 np0_3_4 cp0_3_4, .sl ap0_4_5 np0_4_5 cp0_4_5]] h R) = M_impl_GoodBank := by kernel_rfl
theorem calls_impl_GoodBank (ap0_0_1 : Option Addr) (np0_0_1 cp0_0_1 : Nat) (ap0_1_2 : Option Addr) (np0_1_2 cp0_1_2 : Nat) (ap0_2_3 : Option Addr) (np0_2_3 cp0_2_3 : Nat) (ap0_3_4 : Option Addr) (np0_3_4 cp0_3_4 : Nat) (ap0_4_5 : Option Addr) (np0_4_5 cp0_4_5 : Nat) {h : Heap} {R : Value → Heap → Prop} (hm : M_impl_GoodBank ap0_0_1 np0_0_1 cp0_0_1 ap0_1_2 np0_1_2 cp0_1_2 ap0_2_3 np0_2_3 cp0_2_3 ap0_3_4 np0_3_4 cp0_3_4 ap0_4_5 np0_4_5 cp0_4_5 h R) : CallsH PP fn_impl_GoodBank [.agg ⟨[.slice ap0_0_1 np0_0_1 cp0_0_1, .slice ap0_1_2 np0_1_2 cp0_1_2, .slice ap0_2_3 np0_2_3 cp0_2_3, .slice ap0_3_4 np0_3_4 cp0_3_4, .slice ap0_4_5 np0_4_5 cp0_4_5]⟩] h R :=
  callsH_of X0ok Try.func28 (by kernel_rfl) plan_impl_GoodBank [.agg [.sl ap0_0_1 np0_0_1 cp0_0_1, .sl ap0_1_2 np0_1_2 cp0_1_2, .sl ap0_2_3 np0_2_3 cp0_2_3, .sl ap0_3_4 np0_3_4 cp0_3_4, .sl ap0_4_5 np0_4_5 cp0_4_5]] (Eq.mpr (congrFun (congrFun (congrFun (congrFun (congrFun (congrFun (congrFun (congrFun (congrFun (congrFun (congrFun (congrFun (congrFun (congrFun (congrFun (congrFun (congrFun tie_impl_GoodBank ap0_0_1) np0_0_1) cp0_0_1) ap0_1_2) np0_1_2) cp0_1_2) ap0_2_3) np0_2_3) cp0_2_3) ap0_3_4) np0_3_4) cp0_3_4) ap0_4_5) np0_4_5) cp0_4_5) h) R) hm)
/- 98: impl.isBank -/
def M_impl_isBank (ap0_0_1 : Option Addr) (np0_0_1 cp0_0_1 : Nat) (ap0_1_2 : Option Addr) (np0_1_2 cp0_1_2 : Nat) (ap0_2_3 : Option Addr) (np0_2_3 cp0_2_3 : Nat) (ap0_3_4 : Option Addr) (np0_3_4 cp0_3_4 : Nat) (ap0_4_5 : Option Addr) (np0_4_5 cp0_4_5 : Nat) (h : Heap) (R : Value → Heap → Prop) : Prop :=
  ∀ h6 : Heap, h6 = newRowH h ty_impl_Bank [.slice ap0_0_1 np0_0_1 cp0_0_1, .slice ap0_1_2 np0_1_2 cp0_1_2, .slice ap0_2_3 np0_2_3 cp0_2_3, .slice ap0_3_4 np0_3_4 cp0_3_4, .slice ap0_4_5 np0_4_5 cp0_4_5] →
  ∃ (a8_7 : Option Addr) (n8_7 c8_7 : Nat), cellAt h6 h.size 0 = some (.slice a8_7 n8_7 c8_7) ∧
  CallsH PP fn_impl_within [.int .i64 ((n8_7 : Nat) : Int), .int .i64 1, .int .i64 5] h6 fun (v8 : Value) (h8 : Heap) =>
  ∃ (t11_9 : Bool), v8 = .bool t11_9 ∧
  (((!t11_9) = false →
    ∃ (a15_10 : Option Addr) (n15_10 c15_10 : Nat), cellAt h8 h.size 1 = some (.slice a15_10 n15_10 c15_10) ∧
    ((((((n15_10 : Nat) : Int) : Int) != (IntKind.i64.wrap (((n8_7 : Nat) : Int) * ((n8_7 : Nat) : Int)))) = false →
      ∃ (a24_11 : Option Addr) (n24_11 c24_11 : Nat), cellAt h8 h.size 2 = some (.slice a24_11 n24_11 c24_11) ∧
      ((((((n24_11 : Nat) : Int) : Int) != ((n8_7 : Nat) : Int)) = false →
        ∃ (a31_12 : Option Addr) (n31_12 c31_12 : Nat), cellAt h8 h.size 3 = some (.slice a31_12 n31_12 c31_12) ∧
        ((((((n31_12 : Nat) : Int) : Int) != ((n8_7 : Nat) : Int)) = false →
          ∃ (a38_13 : Option Addr) (n38_13 c38_13 : Nat), cellAt h8 h.size 4 = some (.slice a38_13 n38_13 c38_13) ∧
          ((((((n38_13 : Nat) : Int) : Int) != ((n8_7 : Nat) : Int)) = true →
            R (.bool false) h8) ∧
          (((((n38_13 : Nat) : Int) : Int) != ((n8_7 : Nat) : Int)) = false →
            ∃ (I14 : List Value → Heap → Prop) (μ14 : List Value → Heap → Nat), I14 [.int .i64 0] h8 ∧
            ∀ h14 : Heap, ∀ (x44_15 : Int), I14 [.int .i64 x44_15] h14 →
              (((decide ((x44_15 : Int) < ((n8_7 : Nat) : Int))) = true →
                ∃ (a48_16 : Option Addr) (n48_16 c48_16 : Nat), cellAt h14 h.size 0 = some (.slice a48_16 n48_16 c48_16) ∧
                ∃ (b50_17 o50_17 : Nat), a48_16 = some ⟨b50_17, o50_17, none⟩ ∧ (0 : Int) ≤ x44_15 ∧ (x44_15 : Int) < ((n48_16 : Nat) : Int) ∧
                ∃ (x51_18 : Int), cellAt h14 b50_17 (o50_17 + x44_15.toNat) = some (.int .i64 x51_18) ∧
                CallsH PP fn_impl_within [.int .i64 x51_18, .int .i64 0, .int .i64 1000] h14 fun (v19 : Value) (h19 : Heap) =>
                ∃ (t52_20 : Bool), v19 = .bool t52_20 ∧
                (((!t52_20) = false →
                  ∃ (a56_21 : Option Addr) (n56_21 c56_21 : Nat), cellAt h19 h.size 2 = some (.slice a56_21 n56_21 c56_21) ∧
                  ∃ (b58_22 o58_22 : Nat), a56_21 = some ⟨b58_22, o58_22, none⟩ ∧ (0 : Int) ≤ x44_15 ∧ (x44_15 : Int) < ((n56_21 : Nat) : Int) ∧
                  ∃ (x59_23 : Int), cellAt h19 b58_22 (o58_22 + x44_15.toNat) = some (.int .i64 x59_23) ∧
                  CallsH PP fn_impl_within [.int .i64 x59_23, .int .i64 (-1), .int .i64 1000] h19 fun (v24 : Value) (h24 : Heap) =>
                  ∃ (t60_25 : Bool), v24 = .bool t60_25 ∧
                  (((!t60_25) = false →
                    ∃ (a65_26 : Option Addr) (n65_26 c65_26 : Nat), cellAt h24 h.size 3 = some (.slice a65_26 n65_26 c65_26) ∧
                    ∃ (b67_27 o67_27 : Nat), a65_26 = some ⟨b67_27, o67_27, none⟩ ∧ (0 : Int) ≤ x44_15 ∧ (x44_15 : Int) < ((n65_26 : Nat) : Int) ∧
                    ∃ (a68_28 : Option Addr) (n68_28 c68_28 : Nat), cellAt h24 b67_27 (o67_27 + x44_15.toNat) = some (.slice a68_28 n68_28 c68_28) ∧
                    ((((((n68_28 : Nat) : Int) : Int) != ((n8_7 : Nat) : Int)) = false →
                      ∃ (a75_29 : Option Addr) (n75_29 c75_29 : Nat), cellAt h24 h.size 4 = some (.slice a75_29 n75_29 c75_29) ∧
                      ∃ (b77_30 o77_30 : Nat), a75_29 = some ⟨b77_30, o77_30, none⟩ ∧ (0 : Int) ≤ x44_15 ∧ (x44_15 : Int) < ((n75_29 : Nat) : Int) ∧
                      ∃ (a78_31 : Option Addr) (n78_31 c78_31 : Nat), cellAt h24 b77_30 (o77_30 + x44_15.toNat) = some (.slice a78_31 n78_31 c78_31) ∧
                      ((((((n78_31 : Nat) : Int) : Int) != ((n8_7 : Nat) : Int)) = true →
                        R (.bool false) h24) ∧
                      (((((n78_31 : Nat) : Int) : Int) != ((n8_7 : Nat) : Int)) = false →
                        I14 [.int .i64 (IntKind.i64.wrap (x44_15 + 1))] h24 ∧ μ14 [.int .i64 (IntKind.i64.wrap (x44_15 + 1))] h24 < μ14 [.int .i64 x44_15] h14))) ∧
                    (((((n68_28 : Nat) : Int) : Int) != ((n8_7 : Nat) : Int)) = true →
                      R (.bool false) h24))) ∧
                  ((!t60_25) = true →
                    R (.bool false) h24))) ∧
                ((!t52_20) = true →
                  R (.bool false) h19))) ∧
              ((decide ((x44_15 : Int) < ((n8_7 : Nat) : Int))) = false →
                ∃ (I32 : List Value → Heap → Prop) (μ32 : List Value → Heap → Nat), I32 [.int .i64 0] h14 ∧
                ∀ h32 : Heap, ∀ (x85_33 : Int), I32 [.int .i64 x85_33] h32 →
                  (((decide ((x85_33 : Int) < ((n8_7 : Nat) : Int))) = true →
                    ∃ (I34 : List Value → Heap → Prop) (μ34 : List Value → Heap → Nat), I34 [.int .i64 0] h32 ∧
                    ∀ h34 : Heap, ∀ (x89_35 : Int), I34 [.int .i64 x89_35] h34 →
                      (((decide ((x89_35 : Int) < ((n8_7 : Nat) : Int))) = true →
                        CallsH PP fn_impl_Bank_isWay [.pointer (some ⟨h.size, 0, none⟩), .int .i64 x85_33, .int .i64 x89_35] h34 fun (v36 : Value) (h36 : Heap) =>
                        ∃ (t94_37 : Bool), v36 = .bool t94_37 ∧
                        (((!t94_37) = true →
                          R (.bool false) h36) ∧
                        ((!t94_37) = false →
                          I34 [.int .i64 (IntKind.i64.wrap (x89_35 + 1))] h36 ∧ μ34 [.int .i64 (IntKind.i64.wrap (x89_35 + 1))] h36 < μ34 [.int .i64 x89_35] h34))) ∧
                      ((decide ((x89_35 : Int) < ((n8_7 : Nat) : Int))) = false →
                        I32 [.int .i64 (IntKind.i64.wrap (x85_33 + 1))] h34 ∧ μ32 [.int .i64 (IntKind.i64.wrap (x85_33 + 1))] h34 < μ32 [.int .i64 x85_33] h32))) ∧
                  ((decide ((x85_33 : Int) < ((n8_7 : Nat) : Int))) = false →
                    R (.bool true) h32))))))) ∧
        (((((n31_12 : Nat) : Int) : Int) != ((n8_7 : Nat) : Int)) = true →
          R (.bool false) h8))) ∧
      (((((n24_11 : Nat) : Int) : Int) != ((n8_7 : Nat) : Int)) = true →
        R (.bool false) h8))) ∧
    (((((n15_10 : Nat) : Int) : Int) != (IntKind.i64.wrap (((n8_7 : Nat) : Int) * ((n8_7 : Nat) : Int)))) = true →
      R (.bool false) h8))) ∧
  ((!t11_9) = true →
    R (.bool false) h8))
def plan_impl_isBank : Plan := .seq none (.leaf) (.seq none (.leaf) (.seq none (.seq none (.leaf) (.cond (.seq none (.leaf) (.leaf)) (.leaf))) (.seq none (.seq none (.leaf) (.block (.loop [(44, .l (.int .i64))] (.seq none (.leaf) (.seq none (.cond (.leaf) (.leaf)) (.seq none (.block (.seq none (.leaf) (.seq none (.leaf) (.cond (.seq none (.leaf) (.leaf)) (.leaf))))) (.leaf))))))) (.seq none (.seq none (.leaf) (.block (.loop [(85, .l (.int .i64))] (.seq none (.leaf) (.seq none (.cond (.leaf) (.leaf)) (.seq none (.block (.seq none (.leaf) (.seq none (.leaf) (.block (.loop [(89, .l (.int .i64))] (.seq none (.leaf) (.seq none (.cond (.leaf) (.leaf)) (.seq none (.block (.seq none (.leaf) (.seq none (.leaf) (.cond (.seq none (.leaf) (.leaf)) (.leaf))))) (.leaf))))))))) (.leaf))))))) (.seq none (.leaf) (.leaf))))))
theorem tie_impl_isBank : (fun (ap0_0_1 : Option Addr) (np0_0_1 cp0_0_1 : Nat) (ap0_1_2 : Option Addr) (np0_1_2 cp0_1_2 : Nat) (ap0_2_3 : Option Addr) (np0_2_3 cp0_2_3 : Nat) (ap0_3_4 : Option Addr) (np0_3_4 cp0_3_4 : Nat) (ap0_4_5 : Option Addr) (np0_4_5 cp0_4_5 : Nat) (h : Heap) (R : Value → Heap → Prop) => denF X0 Try.f98 (bodyOf Try.f98) plan_impl_isBank [.agg [.sl ap0_0_1 np0_0_1 cp0_0_1, .sl ap0_1_2 np0_1_2 cp0_1_2, .sl ap0_2_3 np0_2_3 cp0_2_3, .sl ap0_3_4 np0_3_4 cp0_3_4, .sl ap0_4_5 np0_4_5 cp0_4_5]] h R) = M_impl_isBank := by kernel_rfl
theorem calls_impl_isBank (ap0_0_1 : Option Addr) (np0_0_1 cp0_0_1 : Nat) (ap0_1_2 : Option Addr) (np0_1_2 cp0_1_2 : Nat) (ap0_2_3 : Option Addr) (np0_2_3 cp0_2_3 : Nat) (ap0_3_4 : Option Addr) (np0_3_4 cp0_3_4 : Nat) (ap0_4_5 : Option Addr) (np0_4_5 cp0_4_5 : Nat) {h : Heap} {R : Value → Heap → Prop} (hm : M_impl_isBank ap0_0_1 np0_0_1 cp0_0_1 ap0_1_2 np0_1_2 cp0_1_2 ap0_2_3 np0_2_3 cp0_2_3 ap0_3_4 np0_3_4 cp0_3_4 ap0_4_5 np0_4_5 cp0_4_5 h R) : CallsH PP fn_impl_isBank [.agg ⟨[.slice ap0_0_1 np0_0_1 cp0_0_1, .slice ap0_1_2 np0_1_2 cp0_1_2, .slice ap0_2_3 np0_2_3 cp0_2_3, .slice ap0_3_4 np0_3_4 cp0_3_4, .slice ap0_4_5 np0_4_5 cp0_4_5]⟩] h R :=
  callsH_of X0ok Try.func98 (by kernel_rfl) plan_impl_isBank [.agg [.sl ap0_0_1 np0_0_1 cp0_0_1, .sl ap0_1_2 np0_1_2 cp0_1_2, .sl ap0_2_3 np0_2_3 cp0_2_3, .sl ap0_3_4 np0_3_4 cp0_3_4, .sl ap0_4_5 np0_4_5 cp0_4_5]] (Eq.mpr (congrFun (congrFun (congrFun (congrFun (congrFun (congrFun (congrFun (congrFun (congrFun (congrFun (congrFun (congrFun (congrFun (congrFun (congrFun (congrFun (congrFun tie_impl_isBank ap0_0_1) np0_0_1) cp0_0_1) ap0_1_2) np0_1_2) cp0_1_2) ap0_2_3) np0_2_3) cp0_2_3) ap0_3_4) np0_3_4) cp0_3_4) ap0_4_5) np0_4_5) cp0_4_5) h) R) hm)
/- 165: (*impl.Bank).isWay -/
def M_impl_Bank_isWay (b0 o0 : Nat) (xp1_1 : Int) (xp2_2 : Int) (h : Heap) (R : Value → Heap → Prop) : Prop :=
  ∃ (a12_3 : Option Addr) (n12_3 c12_3 : Nat), cellAt h b0 (o0 + 1) = some (.slice a12_3 n12_3 c12_3) ∧
  ∃ (a17_4 : Option Addr) (n17_4 c17_4 : Nat), cellAt h b0 o0 = some (.slice a17_4 n17_4 c17_4) ∧
  ∃ (b22_5 o22_5 : Nat), a12_3 = some ⟨b22_5, o22_5, none⟩ ∧ (0 : Int) ≤ IntKind.i64.wrap ((IntKind.i64.wrap (xp1_1 * ((n17_4 : Nat) : Int))) + xp2_2) ∧ (IntKind.i64.wrap ((IntKind.i64.wrap (xp1_1 * ((n17_4 : Nat) : Int))) + xp2_2) : Int) < ((n12_3 : Nat) : Int) ∧
  ∃ (a23_6 : Option Addr) (n23_6 c23_6 : Nat), cellAt h b22_5 (o22_5 + ((IntKind.i64.wrap ((IntKind.i64.wrap (xp1_1 * ((n17_4 : Nat) : Int))) + xp2_2)).toNat)) = some (.slice a23_6 n23_6 c23_6) ∧
  ∀ (K7 : List Value → Heap → Prop), (∀ h7 : Heap, ∀ (x8_8 : Int), (
    ((((xp1_1 : Int) == xp2_2) = true →
      ((((((n23_6 : Nat) : Int) : Int) == 0) = true →
        ∃ (a44_9 : Option Addr) (n44_9 c44_9 : Nat), cellAt h7 b0 (o0 + 4) = some (.slice a44_9 n44_9 c44_9) ∧
        ∃ (b46_10 o46_10 : Nat), a44_9 = some ⟨b46_10, o46_10, none⟩ ∧ (0 : Int) ≤ xp1_1 ∧ (xp1_1 : Int) < ((n44_9 : Nat) : Int) ∧
        ∃ (a47_11 : Option Addr) (n47_11 c47_11 : Nat), cellAt h7 b46_10 (o46_10 + xp1_1.toNat) = some (.slice a47_11 n47_11 c47_11) ∧
        ∃ (b49_12 o49_12 : Nat), a47_11 = some ⟨b49_12, o49_12, none⟩ ∧ (0 : Int) ≤ xp2_2 ∧ (xp2_2 : Int) < ((n47_11 : Nat) : Int) ∧
        ∃ (x50_13 : Int), cellAt h7 b49_12 (o49_12 + xp2_2.toNat) = some (.int .i64 x50_13) ∧
        ((((x50_13 : Int) == 0) = true →
          ∃ (a57_14 : Option Addr) (n57_14 c57_14 : Nat), cellAt h7 b0 (o0 + 3) = some (.slice a57_14 n57_14 c57_14) ∧
          ∃ (b59_15 o59_15 : Nat), a57_14 = some ⟨b59_15, o59_15, none⟩ ∧ (0 : Int) ≤ xp2_2 ∧ (xp2_2 : Int) < ((n57_14 : Nat) : Int) ∧
          ∃ (a60_16 : Option Addr) (n60_16 c60_16 : Nat), cellAt h7 b59_15 (o59_15 + xp2_2.toNat) = some (.slice a60_16 n60_16 c60_16) ∧
          ∃ (b62_17 o62_17 : Nat), a60_16 = some ⟨b62_17, o62_17, none⟩ ∧ (0 : Int) ≤ xp1_1 ∧ (xp1_1 : Int) < ((n60_16 : Nat) : Int) ∧
          ∃ (t63_18 : Bool), cellAt h7 b62_17 (o62_17 + xp1_1.toNat) = some (.bool t63_18) ∧
          R (.bool (!t63_18)) h7) ∧
        (((x50_13 : Int) == 0) = false →
          R (.bool false) h7))) ∧
      (((((n23_6 : Nat) : Int) : Int) == 0) = false →
        R (.bool false) h7))) ∧
    (((xp1_1 : Int) == xp2_2) = false →
      ∀ (K19 : List Value → Heap → Prop), (∀ h19 : Heap, (
        (((decide ((((n23_6 : Nat) : Int) : Int) ≤ x8_8)) = true →
          ∃ (a107_20 : Option Addr) (n107_20 c107_20 : Nat), cellAt h19 b0 (o0 + 4) = some (.slice a107_20 n107_20 c107_20) ∧
          ∃ (b109_21 o109_21 : Nat), a107_20 = some ⟨b109_21, o109_21, none⟩ ∧ (0 : Int) ≤ xp1_1 ∧ (xp1_1 : Int) < ((n107_20 : Nat) : Int) ∧
          ∃ (a110_22 : Option Addr) (n110_22 c110_22 : Nat), cellAt h19 b109_21 (o109_21 + xp1_1.toNat) = some (.slice a110_22 n110_22 c110_22) ∧
          ∃ (b112_23 o112_23 : Nat), a110_22 = some ⟨b112_23, o112_23, none⟩ ∧ (0 : Int) ≤ xp2_2 ∧ (xp2_2 : Int) < ((n110_22 : Nat) : Int) ∧
          ∃ (x113_24 : Int), cellAt h19 b112_23 (o112_23 + xp2_2.toNat) = some (.int .i64 x113_24) ∧
          CallsH PP fn_impl_within [.int .i64 x113_24, .int .i64 0, .int .i64 1000] h19 fun (v25 : Value) (h25 : Heap) =>
          ∃ (t114_26 : Bool), v25 = .bool t114_26 ∧
          ((t114_26 = true →
            CallsH PP fn_slices_ContainsFunc_int [.slice a23_6 n23_6 c23_6, .func (.func fn_impl_Bank_isWay_1) #[] ⟨[]⟩] h25 fun (v27 : Value) (h27 : Heap) =>
            ∃ (t118_28 : Bool), v27 = .bool t118_28 ∧
            R (.bool (!t118_28)) h27) ∧
          (t114_26 = false →
            R (.bool false) h25))) ∧
        ((decide ((((n23_6 : Nat) : Int) : Int) ≤ x8_8)) = false →
          R (.bool false) h19))) → K19 [] h19) →
      ∃ (a69_29 : Option Addr) (n69_29 c69_29 : Nat), cellAt h7 b0 (o0 + 2) = some (.slice a69_29 n69_29 c69_29) ∧
      ∃ (b71_30 o71_30 : Nat), a69_29 = some ⟨b71_30, o71_30, none⟩ ∧ (0 : Int) ≤ xp2_2 ∧ (xp2_2 : Int) < ((n69_29 : Nat) : Int) ∧
      ∃ (x72_31 : Int), cellAt h7 b71_30 (o71_30 + xp2_2.toNat) = some (.int .i64 x72_31) ∧
      (((decide ((x72_31 : Int) < 0)) = true →
        ∃ (a78_32 : Option Addr) (n78_32 c78_32 : Nat), cellAt h7 b0 (o0 + 4) = some (.slice a78_32 n78_32 c78_32) ∧
        ∃ (b80_33 o80_33 : Nat), a78_32 = some ⟨b80_33, o80_33, none⟩ ∧ (0 : Int) ≤ xp1_1 ∧ (xp1_1 : Int) < ((n78_32 : Nat) : Int) ∧
        ∃ (a81_34 : Option Addr) (n81_34 c81_34 : Nat), cellAt h7 b80_33 (o80_33 + xp1_1.toNat) = some (.slice a81_34 n81_34 c81_34) ∧
        ∃ (b83_35 o83_35 : Nat), a81_34 = some ⟨b83_35, o83_35, none⟩ ∧ (0 : Int) ≤ xp2_2 ∧ (xp2_2 : Int) < ((n81_34 : Nat) : Int) ∧
        ∃ (x84_36 : Int), cellAt h7 b83_35 (o83_35 + xp2_2.toNat) = some (.int .i64 x84_36) ∧
        ((((x84_36 : Int) != 0) = false →
          ∃ (a90_37 : Option Addr) (n90_37 c90_37 : Nat), cellAt h7 b0 (o0 + 3) = some (.slice a90_37 n90_37 c90_37) ∧
          ∃ (b92_38 o92_38 : Nat), a90_37 = some ⟨b92_38, o92_38, none⟩ ∧ (0 : Int) ≤ xp2_2 ∧ (xp2_2 : Int) < ((n90_37 : Nat) : Int) ∧
          ∃ (a93_39 : Option Addr) (n93_39 c93_39 : Nat), cellAt h7 b92_38 (o92_38 + xp2_2.toNat) = some (.slice a93_39 n93_39 c93_39) ∧
          ∃ (b95_40 o95_40 : Nat), a93_39 = some ⟨b95_40, o95_40, none⟩ ∧ (0 : Int) ≤ xp1_1 ∧ (xp1_1 : Int) < ((n93_39 : Nat) : Int) ∧
          ∃ (t96_41 : Bool), cellAt h7 b95_40 (o95_40 + xp1_1.toNat) = some (.bool t96_41) ∧
          ((t96_41 = true →
            R (.bool false) h7) ∧
          (t96_41 = false →
            K19 [] h7))) ∧
        (((x84_36 : Int) != 0) = true →
          R (.bool false) h7))) ∧
      ((decide ((x72_31 : Int) < 0)) = false →
        K19 [] h7))))) → K7 [.int .i64 x8_8] h7) →
  ∃ (a27_42 : Option Addr) (n27_42 c27_42 : Nat), cellAt h b0 (o0 + 2) = some (.slice a27_42 n27_42 c27_42) ∧
  ∃ (b29_43 o29_43 : Nat), a27_42 = some ⟨b29_43, o29_43, none⟩ ∧ (0 : Int) ≤ xp1_1 ∧ (xp1_1 : Int) < ((n27_42 : Nat) : Int) ∧
  ∃ (x30_44 : Int), cellAt h b29_43 (o29_43 + xp1_1.toNat) = some (.int .i64 x30_44) ∧
  (((decide ((x30_44 : Int) < 0)) = true →
    K7 [.int .i64 (IntKind.i64.wrap (40 - 1))] h) ∧
  ((decide ((x30_44 : Int) < 0)) = false →
    K7 [.int .i64 40] h))
def plan_impl_Bank_isWay : Plan := .seq none (.leaf) (.seq none (.draw (.op 0 (.op 1 (.op 2 (.op 3 (.op 4 (.op 5 (.op 6 (.op 7 (.op 8 (.op 9 (.op 10 (.op 11 (.op 12 (.op 13 (.op 14 (.op 15 .done))))))))))))))))) (.seq none (.leaf) (.seq (some [(8, .l (.int .i64))]) (.seq none (.leaf) (.cond (.leaf) (.leaf))) (.seq none (.seq none (.leaf) (.cond (.seq none (.leaf) (.leaf)) (.leaf))) (.seq (some []) (.seq none (.leaf) (.cond (.seq none (.leaf) (.leaf)) (.leaf))) (.seq none (.leaf) (.leaf)))))))
theorem tie_impl_Bank_isWay : (fun (b0 o0 : Nat) (xp1_1 : Int) (xp2_2 : Int) (h : Heap) (R : Value → Heap → Prop) => denF X0 Try.f165 (bodyOf Try.f165) plan_impl_Bank_isWay [.l (.ptrB b0 o0), .l (.int .i64 xp1_1), .l (.int .i64 xp2_2)] h R) = M_impl_Bank_isWay := by kernel_rfl
theorem calls_impl_Bank_isWay (b0 o0 : Nat) (xp1_1 : Int) (xp2_2 : Int) {h : Heap} {R : Value → Heap → Prop} (hm : M_impl_Bank_isWay b0 o0 xp1_1 xp2_2 h R) : CallsH PP fn_impl_Bank_isWay [.pointer (some ⟨b0, o0, none⟩), .int .i64 xp1_1, .int .i64 xp2_2] h R :=
  callsH_of X0ok Try.func165 (by kernel_rfl) plan_impl_Bank_isWay [.l (.ptrB b0 o0), .l (.int .i64 xp1_1), .l (.int .i64 xp2_2)] (Eq.mpr (congrFun (congrFun (congrFun (congrFun (congrFun (congrFun tie_impl_Bank_isWay b0) o0) xp1_1) xp2_2) h) R) hm)
/- 216: (*impl.Bank).isWay$1 -/
def M_impl_Bank_isWay_1 (xp0_1 : Int) (h : Heap) (R : Value → Heap → Prop) : Prop :=
  CallsH PP fn_impl_within [.int .i64 xp0_1, .int .i64 0, .int .i64 50] h fun (v2 : Value) (h2 : Heap) =>
  ∃ (t4_3 : Bool), v2 = .bool t4_3 ∧
  R (.bool (!t4_3)) h2
def plan_impl_Bank_isWay_1 : Plan := .seq none (.leaf) (.seq none (.leaf) (.leaf))
theorem tie_impl_Bank_isWay_1 : (fun (xp0_1 : Int) (h : Heap) (R : Value → Heap → Prop) => denF X0 Try.f216 (bodyOf Try.f216) plan_impl_Bank_isWay_1 [.l (.int .i64 xp0_1)] h R) = M_impl_Bank_isWay_1 := by kernel_rfl
theorem calls_impl_Bank_isWay_1 (xp0_1 : Int) {h : Heap} {R : Value → Heap → Prop} (hm : M_impl_Bank_isWay_1 xp0_1 h R) : CallsH PP fn_impl_Bank_isWay_1 [.int .i64 xp0_1] h R :=
  callsH_of X0ok Try.func216 (by kernel_rfl) plan_impl_Bank_isWay_1 [.l (.int .i64 xp0_1)] (Eq.mpr (congrFun (congrFun (congrFun tie_impl_Bank_isWay_1 xp0_1) h) R) hm)
/- 29: impl.StepBank -/
def M_impl_StepBank (ap0_0_1 : Option Addr) (np0_0_1 cp0_0_1 : Nat) (ap0_1_2 : Option Addr) (np0_1_2 cp0_1_2 : Nat) (ap0_2_3 : Option Addr) (np0_2_3 cp0_2_3 : Nat) (ap0_3_4 : Option Addr) (np0_3_4 cp0_3_4 : Nat) (ap0_4_5 : Option Addr) (np0_4_5 cp0_4_5 : Nat) (xp1_0_6 : Int) (xp1_1_7 : Int) (xp1_2_8 : Int) (xp1_3_9 : Int) (h : Heap) (R : Value → Heap → Prop) : Prop :=
  ∀ h10 : Heap, h10 = newRowH h ty_impl_Bank [.slice ap0_0_1 np0_0_1 cp0_0_1, .slice ap0_1_2 np0_1_2 cp0_1_2, .slice ap0_2_3 np0_2_3 cp0_2_3, .slice ap0_3_4 np0_3_4 cp0_3_4, .slice ap0_4_5 np0_4_5 cp0_4_5] →
  ∀ h11 : Heap, h11 = newRowH h10 ty_impl_SnapStep [.int .i64 xp1_0_6, .int .i64 xp1_1_7, .int .i64 xp1_2_8, .int .i64 xp1_3_9] →
  ∀ h12 : Heap, h12 = newRowH h11 ty_impl_Bank [.slice none 0 0, .slice none 0 0, .slice none 0 0, .slice none 0 0, .slice none 0 0] →
  ∃ (a7_0_13 : Option Addr) (n7_0_13 c7_0_13 : Nat), cellAt h12 h.size 0 = some (.slice a7_0_13 n7_0_13 c7_0_13) ∧
  ∃ (a7_1_14 : Option Addr) (n7_1_14 c7_1_14 : Nat), cellAt h12 h.size 1 = some (.slice a7_1_14 n7_1_14 c7_1_14) ∧
  ∃ (a7_2_15 : Option Addr) (n7_2_15 c7_2_15 : Nat), cellAt h12 h.size 2 = some (.slice a7_2_15 n7_2_15 c7_2_15) ∧
  ∃ (a7_3_16 : Option Addr) (n7_3_16 c7_3_16 : Nat), cellAt h12 h.size 3 = some (.slice a7_3_16 n7_3_16 c7_3_16) ∧
  ∃ (a7_4_17 : Option Addr) (n7_4_17 c7_4_17 : Nat), cellAt h12 h.size 4 = some (.slice a7_4_17 n7_4_17 c7_4_17) ∧
  CallsH PP fn_impl_isBank [.agg ⟨[.slice a7_0_13 n7_0_13 c7_0_13, .slice a7_1_14 n7_1_14 c7_1_14, .slice a7_2_15 n7_2_15 c7_2_15, .slice a7_3_16 n7_3_16 c7_3_16, .slice a7_4_17 n7_4_17 c7_4_17]⟩] h12 fun (v18 : Value) (h18 : Heap) =>
  ∃ (t8_19 : Bool), v18 = .bool t8_19 ∧
  (((!t8_19) = true →
    ∃ (e20 : TypeId) (c20 : List Value), Row h18 h11.size e20 c20 ∧ 0 + 5 ≤ c20.length ∧
    ∀ h21 : Heap, h21 = putRow h18 h11.size e20 (splice c20 0 [.slice none 0 0, .slice none 0 0, .slice none 0 0, .slice none 0 0, .slice none 0 0]) →
    ∃ (ar0_0_22 : Option Addr) (nr0_0_22 cr0_0_22 : Nat), cellAt h21 h11.size 0 = some (.slice ar0_0_22 nr0_0_22 cr0_0_22) ∧
    ∃ (ar0_1_23 : Option Addr) (nr0_1_23 cr0_1_23 : Nat), cellAt h21 h11.size 1 = some (.slice ar0_1_23 nr0_1_23 cr0_1_23) ∧
    ∃ (ar0_2_24 : Option Addr) (nr0_2_24 cr0_2_24 : Nat), cellAt h21 h11.size 2 = some (.slice ar0_2_24 nr0_2_24 cr0_2_24) ∧
    ∃ (ar0_3_25 : Option Addr) (nr0_3_25 cr0_3_25 : Nat), cellAt h21 h11.size 3 = some (.slice ar0_3_25 nr0_3_25 cr0_3_25) ∧
    ∃ (ar0_4_26 : Option Addr) (nr0_4_26 cr0_4_26 : Nat), cellAt h21 h11.size 4 = some (.slice ar0_4_26 nr0_4_26 cr0_4_26) ∧
    R (.tuple ⟨[.agg ⟨[.slice ar0_0_22 nr0_0_22 cr0_0_22, .slice ar0_1_23 nr0_1_23 cr0_1_23, .slice ar0_2_24 nr0_2_24 cr0_2_24, .slice ar0_3_25 nr0_3_25 cr0_3_25, .slice ar0_4_26 nr0_4_26 cr0_4_26]⟩, .bool false]⟩) h21) ∧
  ((!t8_19) = false →
    ∃ (a11_0_27 : Option Addr) (n11_0_27 c11_0_27 : Nat), cellAt h18 h.size 0 = some (.slice a11_0_27 n11_0_27 c11_0_27) ∧
    ∃ (a11_1_28 : Option Addr) (n11_1_28 c11_1_28 : Nat), cellAt h18 h.size 1 = some (.slice a11_1_28 n11_1_28 c11_1_28) ∧
    ∃ (a11_2_29 : Option Addr) (n11_2_29 c11_2_29 : Nat), cellAt h18 h.size 2 = some (.slice a11_2_29 n11_2_29 c11_2_29) ∧
    ∃ (a11_3_30 : Option Addr) (n11_3_30 c11_3_30 : Nat), cellAt h18 h.size 3 = some (.slice a11_3_30 n11_3_30 c11_3_30) ∧
    ∃ (a11_4_31 : Option Addr) (n11_4_31 c11_4_31 : Nat), cellAt h18 h.size 4 = some (.slice a11_4_31 n11_4_31 c11_4_31) ∧
    CallsH PP fn_impl_cloneBank [.agg ⟨[.slice a11_0_27 n11_0_27 c11_0_27, .slice a11_1_28 n11_1_28 c11_1_28, .slice a11_2_29 n11_2_29 c11_2_29, .slice a11_3_30 n11_3_30 c11_3_30, .slice a11_4_31 n11_4_31 c11_4_31]⟩] h18 fun (v32 : Value) (h32 : Heap) =>
    ∃ (a12_0_33 : Option Addr) (n12_0_33 c12_0_33 : Nat) (a12_1_34 : Option Addr) (n12_1_34 c12_1_34 : Nat) (a12_2_35 : Option Addr) (n12_2_35 c12_2_35 : Nat) (a12_3_36 : Option Addr) (n12_3_36 c12_3_36 : Nat) (a12_4_37 : Option Addr) (n12_4_37 c12_4_37 : Nat), v32 = .agg ⟨[.slice a12_0_33 n12_0_33 c12_0_33, .slice a12_1_34 n12_1_34 c12_1_34, .slice a12_2_35 n12_2_35 c12_2_35, .slice a12_3_36 n12_3_36 c12_3_36, .slice a12_4_37 n12_4_37 c12_4_37]⟩ ∧
    ∀ h38 : Heap, h38 = newRowH h32 ty_impl_Bank [.slice none 0 0, .slice none 0 0, .slice none 0 0, .slice none 0 0, .slice none 0 0] →
    ∃ (e39 : TypeId) (c39 : List Value), Row h38 h32.size e39 c39 ∧ 0 + 5 ≤ c39.length ∧
    ∀ h40 : Heap, h40 = putRow h38 h32.size e39 (splice c39 0 [.slice a12_0_33 n12_0_33 c12_0_33, .slice a12_1_34 n12_1_34 c12_1_34, .slice a12_2_35 n12_2_35 c12_2_35, .slice a12_3_36 n12_3_36 c12_3_36, .slice a12_4_37 n12_4_37 c12_4_37]) →
    ∃ (x13_0_41 : Int), cellAt h40 h10.size 0 = some (.int .i64 x13_0_41) ∧
    ∃ (x13_1_42 : Int), cellAt h40 h10.size 1 = some (.int .i64 x13_1_42) ∧
    ∃ (x13_2_43 : Int), cellAt h40 h10.size 2 = some (.int .i64 x13_2_43) ∧
    ∃ (x13_3_44 : Int), cellAt h40 h10.size 3 = some (.int .i64 x13_3_44) ∧
    CallsH PP fn_impl_Bank_step [.pointer (some ⟨h32.size, 0, none⟩), .agg ⟨[.int .i64 x13_0_41, .int .i64 x13_1_42, .int .i64 x13_2_43, .int .i64 x13_3_44]⟩] h40 fun (v45 : Value) (h45 : Heap) =>
    ∃ (t14_46 : Bool), v45 = .bool t14_46 ∧
    (((!t14_46) = true →
      ∃ (e47 : TypeId) (c47 : List Value), Row h45 h11.size e47 c47 ∧ 0 + 5 ≤ c47.length ∧
      ∀ h48 : Heap, h48 = putRow h45 h11.size e47 (splice c47 0 [.slice none 0 0, .slice none 0 0, .slice none 0 0, .slice none 0 0, .slice none 0 0]) →
      ∃ (ar0_0_49 : Option Addr) (nr0_0_49 cr0_0_49 : Nat), cellAt h48 h11.size 0 = some (.slice ar0_0_49 nr0_0_49 cr0_0_49) ∧
      ∃ (ar0_1_50 : Option Addr) (nr0_1_50 cr0_1_50 : Nat), cellAt h48 h11.size 1 = some (.slice ar0_1_50 nr0_1_50 cr0_1_50) ∧
      ∃ (ar0_2_51 : Option Addr) (nr0_2_51 cr0_2_51 : Nat), cellAt h48 h11.size 2 = some (.slice ar0_2_51 nr0_2_51 cr0_2_51) ∧
      ∃ (ar0_3_52 : Option Addr) (nr0_3_52 cr0_3_52 : Nat), cellAt h48 h11.size 3 = some (.slice ar0_3_52 nr0_3_52 cr0_3_52) ∧
      ∃ (ar0_4_53 : Option Addr) (nr0_4_53 cr0_4_53 : Nat), cellAt h48 h11.size 4 = some (.slice ar0_4_53 nr0_4_53 cr0_4_53) ∧
      R (.tuple ⟨[.agg ⟨[.slice ar0_0_49 nr0_0_49 cr0_0_49, .slice ar0_1_50 nr0_1_50 cr0_1_50, .slice ar0_2_51 nr0_2_51 cr0_2_51, .slice ar0_3_52 nr0_3_52 cr0_3_52, .slice ar0_4_53 nr0_4_53 cr0_4_53]⟩, .bool false]⟩) h48) ∧
    ((!t14_46) = false →
      ∃ (a17_0_54 : Option Addr) (n17_0_54 c17_0_54 : Nat), cellAt h45 h32.size 0 = some (.slice a17_0_54 n17_0_54 c17_0_54) ∧
      ∃ (a17_1_55 : Option Addr) (n17_1_55 c17_1_55 : Nat), cellAt h45 h32.size 1 = some (.slice a17_1_55 n17_1_55 c17_1_55) ∧
      ∃ (a17_2_56 : Option Addr) (n17_2_56 c17_2_56 : Nat), cellAt h45 h32.size 2 = some (.slice a17_2_56 n17_2_56 c17_2_56) ∧
      ∃ (a17_3_57 : Option Addr) (n17_3_57 c17_3_57 : Nat), cellAt h45 h32.size 3 = some (.slice a17_3_57 n17_3_57 c17_3_57) ∧
      ∃ (a17_4_58 : Option Addr) (n17_4_58 c17_4_58 : Nat), cellAt h45 h32.size 4 = some (.slice a17_4_58 n17_4_58 c17_4_58) ∧
      ∃ (e59 : TypeId) (c59 : List Value), Row h45 h11.size e59 c59 ∧ 0 + 5 ≤ c59.length ∧
      ∀ h60 : Heap, h60 = putRow h45 h11.size e59 (splice c59 0 [.slice a17_0_54 n17_0_54 c17_0_54, .slice a17_1_55 n17_1_55 c17_1_55, .slice a17_2_56 n17_2_56 c17_2_56, .slice a17_3_57 n17_3_57 c17_3_57, .slice a17_4_58 n17_4_58 c17_4_58]) →
      ∃ (ar0_0_61 : Option Addr) (nr0_0_61 cr0_0_61 : Nat), cellAt h60 h11.size 0 = some (.slice ar0_0_61 nr0_0_61 cr0_0_61) ∧
      ∃ (ar0_1_62 : Option Addr) (nr0_1_62 cr0_1_62 : Nat), cellAt h60 h11.size 1 = some (.slice ar0_1_62 nr0_1_62 cr0_1_62) ∧
      ∃ (ar0_2_63 : Option Addr) (nr0_2_63 cr0_2_63 : Nat), cellAt h60 h11.size 2 = some (.slice ar0_2_63 nr0_2_63 cr0_2_63) ∧
      ∃ (ar0_3_64 : Option Addr) (nr0_3_64 cr0_3_64 : Nat), cellAt h60 h11.size 3 = some (.slice ar0_3_64 nr0_3_64 cr0_3_64) ∧
      ∃ (ar0_4_65 : Option Addr) (nr0_4_65 cr0_4_65 : Nat), cellAt h60 h11.size 4 = some (.slice ar0_4_65 nr0_4_65 cr0_4_65) ∧
      R (.tuple ⟨[.agg ⟨[.slice ar0_0_61 nr0_0_61 cr0_0_61, .slice ar0_1_62 nr0_1_62 cr0_1_62, .slice ar0_2_63 nr0_2_63 cr0_2_63, .slice ar0_3_64 nr0_3_64 cr0_3_64, .slice ar0_4_65 nr0_4_65 cr0_4_65]⟩, .bool true]⟩) h60))))
def plan_impl_StepBank : Plan := .seq none (.leaf) (.seq none (.seq none (.leaf) (.cond (.seq none (.leaf) (.leaf)) (.leaf))) (.seq none (.leaf) (.seq none (.seq none (.leaf) (.cond (.seq none (.leaf) (.leaf)) (.leaf))) (.seq none (.leaf) (.leaf)))))
theorem tie_impl_StepBank : (fun (ap0_0_1 : Option Addr) (np0_0_1 cp0_0_1 : Nat) (ap0_1_2 : Option Addr) (np0_1_2 cp0_1_2 : Nat) (ap0_2_3 : Option Addr) (np0_2_3 cp0_2_3 : Nat) (ap0_3_4 : Option Addr) (np0_3_4 cp0_3_4 : Nat) (ap0_4_5 : Option Addr) (np0_4_5 cp0_4_5 : Nat) (xp1_0_6 : Int) (xp1_1_7 : Int) (xp1_2_8 : Int) (xp1_3_9 : Int) (h : Heap) (R : Value → Heap → Prop) => denF X0 Try.f29 (bodyOf Try.f29) plan_impl_StepBank [.agg [.sl ap0_0_1 np0_0_1 cp0_0_1, .sl ap0_1_2 np0_1_2 cp0_1_2, .sl ap0_2_3 np0_2_3 cp0_2_3, .sl ap0_3_4 np0_3_4 cp0_3_4, .sl ap0_4_5 np0_4_5 cp0_4_5], .agg [.int .i64 xp1_0_6, .int .i64 xp1_1_7, .int .i64 xp1_2_8, .int .i64 xp1_3_9]] h R) = M_impl_StepBank := by kernel_rfl
theorem calls_impl_StepBank (ap0_0_1 : Option Addr) (np0_0_1 cp0_0_1 : Nat) (ap0_1_2 : Option Addr) (np0_1_2 cp0_1_2 : Nat) (ap0_2_3 : Option Addr) (np0_2_3 cp0_2_3 : Nat) (ap0_3_4 : Option Addr) (np0_3_4 cp0_3_4 : Nat) (ap0_4_5 : Option Addr) (np0_4_5 cp0_4_5 : Nat) (xp1_0_6 : Int) (xp1_1_7 : Int) (xp1_2_8 : Int) (xp1_3_9 : Int) {h : Heap} {R : Value → Heap → Prop} (hm : M_impl_StepBank ap0_0_1 np0_0_1 cp0_0_1 ap0_1_2 np0_1_2 cp0_1_2 ap0_2_3 np0_2_3 cp0_2_3 ap0_3_4 np0_3_4 cp0_3_4 ap0_4_5 np0_4_5 cp0_4_5 xp1_0_6 xp1_1_7 xp1_2_8 xp1_3_9 h R) : CallsH PP fn_impl_StepBank [.agg ⟨[.slice ap0_0_1 np0_0_1 cp0_0_1, .slice ap0_1_2 np0_1_2 cp0_1_2, .slice ap0_2_3 np0_2_3 cp0_2_3, .slice ap0_3_4 np0_3_4 cp0_3_4, .slice ap0_4_5 np0_4_5 cp0_4_5]⟩, .agg ⟨[.int .i64 xp1_0_6, .int .i64 xp1_1_7, .int .i64 xp1_2_8, .int .i64 xp1_3_9]⟩] h R :=
  callsH_of X0ok Try.func29 (by kernel_rfl) plan_impl_StepBank [.agg [.sl ap0_0_1 np0_0_1 cp0_0_1, .sl ap0_1_2 np0_1_2 cp0_1_2, .sl ap0_2_3 np0_2_3 cp0_2_3, .sl ap0_3_4 np0_3_4 cp0_3_4, .sl ap0_4_5 np0_4_5 cp0_4_5], .agg [.int .i64 xp1_0_6, .int .i64 xp1_1_7, .int .i64 xp1_2_8, .int .i64 xp1_3_9]] (Eq.mpr (congrFun (congrFun (congrFun (congrFun (congrFun (congrFun (congrFun (congrFun (congrFun (congrFun (congrFun (congrFun (congrFun (congrFun (congrFun (congrFun (congrFun (congrFun (congrFun (congrFun (congrFun tie_impl_StepBank ap0_0_1) np0_0_1) cp0_0_1) ap0_1_2) np0_1_2) cp0_1_2) ap0_2_3) np0_2_3) cp0_2_3) ap0_3_4) np0_3_4) cp0_3_4) ap0_4_5) np0_4_5) cp0_4_5) xp1_0_6) xp1_1_7) xp1_2_8) xp1_3_9) h) R) hm)
/- 100: impl.cloneBank -/
def M_impl_cloneBank (ap0_0_1 : Option Addr) (np0_0_1 cp0_0_1 : Nat) (ap0_1_2 : Option Addr) (np0_1_2 cp0_1_2 : Nat) (ap0_2_3 : Option Addr) (np0_2_3 cp0_2_3 : Nat) (ap0_3_4 : Option Addr) (np0_3_4 cp0_3_4 : Nat) (ap0_4_5 : Option Addr) (np0_4_5 cp0_4_5 : Nat) (h : Heap) (R : Value → Heap → Prop) : Prop :=
  ∀ h6 : Heap, h6 = newRowH h ty_impl_Bank [.slice ap0_0_1 np0_0_1 cp0_0_1, .slice ap0_1_2 np0_1_2 cp0_1_2, .slice ap0_2_3 np0_2_3 cp0_2_3, .slice ap0_3_4 np0_3_4 cp0_3_4, .slice ap0_4_5 np0_4_5 cp0_4_5] →
  ∀ h7 : Heap, h7 = newRowH h6 ty_impl_Bank [.slice none 0 0, .slice none 0 0, .slice none 0 0, .slice none 0 0, .slice none 0 0] →
  ∀ (K8 : List Value → Heap → Prop), (∀ h8 : Heap, ∀ (b3_9 o3_9 : Nat), (
    ∃ (a16_10 : Option Addr) (n16_10 c16_10 : Nat), cellAt h8 h.size 1 = some (.slice a16_10 n16_10 c16_10) ∧
    ∃ (I11 : List Value → Heap → Prop) (μ11 : List Value → Heap → Nat), I11 [.int .i64 0] h8 ∧
    ∀ h11 : Heap, ∀ (x18_12 : Int), I11 [.int .i64 x18_12] h11 →
      (((decide ((x18_12 : Int) < ((n16_10 : Nat) : Int))) = true →
        ∃ (b20_13 o20_13 : Nat), a16_10 = some ⟨b20_13, o20_13, none⟩ ∧ (0 : Int) ≤ x18_12 ∧ (x18_12 : Int) < ((n16_10 : Nat) : Int) ∧
        ∃ (a21_14 : Option Addr) (n21_14 c21_14 : Nat), cellAt h11 b20_13 (o20_13 + x18_12.toNat) = some (.slice a21_14 n21_14 c21_14) ∧
        ∃ (a23_15 : Option Addr) (n23_15 c23_15 : Nat), cellAt h11 b3_9 (o3_9 + 1) = some (.slice a23_15 n23_15 c23_15) ∧
        CallsH PP fn_slices_Clone_int [.slice a21_14 n21_14 c21_14] h11 fun (v16 : Value) (h16 : Heap) =>
        ∃ (a25_17 : Option Addr) (n25_17 c25_17 : Nat), v16 = .slice a25_17 n25_17 c25_17 ∧
        cellAt h16 b3_9 (o3_9 + 1) = some (.slice a23_15 n23_15 c23_15) ∧
        ∀ h18 : Heap, h18 = newRowH h16 ty_S_int [.slice a25_17 n25_17 c25_17] →
        cellAt h18 b3_9 (o3_9 + 1) = some (.slice a23_15 n23_15 c23_15) ∧
        appendH h18 ty_S_int 1 [.slice none 0 0] a23_15 n23_15 c23_15 (some ⟨h16.size, 0, none⟩) 1 fun (a27_19 : Option Addr) (n27_19 c27_19 : Nat) (h19 : Heap) =>
        ∃ (e20 : TypeId) (c20 : List Value), Row h19 b3_9 e20 c20 ∧ o3_9 + 1 < c20.length ∧
        ∀ h21 : Heap, h21 = putRow h19 b3_9 e20 (c20.set (o3_9 + 1) (.slice a27_19 n27_19 c27_19)) →
        I11 [.int .i64 (IntKind.i64.wrap (x18_12 + 1))] h21 ∧ μ11 [.int .i64 (IntKind.i64.wrap (x18_12 + 1))] h21 < μ11 [.int .i64 x18_12] h11) ∧
      ((decide ((x18_12 : Int) < ((n16_10 : Nat) : Int))) = false →
        ∃ (a31_22 : Option Addr) (n31_22 c31_22 : Nat), cellAt h11 h.size 3 = some (.slice a31_22 n31_22 c31_22) ∧
        ∃ (I23 : List Value → Heap → Prop) (μ23 : List Value → Heap → Nat), I23 [.int .i64 0] h11 ∧
        ∀ h23 : Heap, ∀ (x33_24 : Int), I23 [.int .i64 x33_24] h23 →
          (((decide ((x33_24 : Int) < ((n31_22 : Nat) : Int))) = true →
            ∃ (b36_25 o36_25 : Nat), a31_22 = some ⟨b36_25, o36_25, none⟩ ∧ (0 : Int) ≤ x33_24 ∧ (x33_24 : Int) < ((n31_22 : Nat) : Int) ∧
            ∃ (a37_26 : Option Addr) (n37_26 c37_26 : Nat), cellAt h23 b36_25 (o36_25 + x33_24.toNat) = some (.slice a37_26 n37_26 c37_26) ∧
            ∃ (a39_27 : Option Addr) (n39_27 c39_27 : Nat), cellAt h23 b3_9 (o3_9 + 3) = some (.slice a39_27 n39_27 c39_27) ∧
            ∃ (a45_28 : Option Addr) (n45_28 c45_28 : Nat), cellAt h23 b3_9 (o3_9 + 4) = some (.slice a45_28 n45_28 c45_28) ∧
            ∃ (a47_29 : Option Addr) (n47_29 c47_29 : Nat), cellAt h23 h.size 4 = some (.slice a47_29 n47_29 c47_29) ∧
            ∃ (b49_30 o49_30 : Nat), a47_29 = some ⟨b49_30, o49_30, none⟩ ∧ (0 : Int) ≤ x33_24 ∧ (x33_24 : Int) < ((n47_29 : Nat) : Int) ∧
            ∃ (a50_31 : Option Addr) (n50_31 c50_31 : Nat), cellAt h23 b49_30 (o49_30 + x33_24.toNat) = some (.slice a50_31 n50_31 c50_31) ∧
            CallsH PP fn_slices_Clone_bool [.slice a37_26 n37_26 c37_26] h23 fun (v32 : Value) (h32 : Heap) =>
            ∃ (a41_33 : Option Addr) (n41_33 c41_33 : Nat), v32 = .slice a41_33 n41_33 c41_33 ∧
            cellAt h32 b49_30 (o49_30 + x33_24.toNat) = some (.slice a50_31 n50_31 c50_31) ∧
            cellAt h32 h.size 4 = some (.slice a47_29 n47_29 c47_29) ∧
            cellAt h32 b3_9 (o3_9 + 4) = some (.slice a45_28 n45_28 c45_28) ∧
            cellAt h32 b3_9 (o3_9 + 3) = some (.slice a39_27 n39_27 c39_27) ∧
            ∀ h34 : Heap, h34 = newRowH h32 ty_S_bool [.slice a41_33 n41_33 c41_33] →
            cellAt h34 b49_30 (o49_30 + x33_24.toNat) = some (.slice a50_31 n50_31 c50_31) ∧
            cellAt h34 h.size 4 = some (.slice a47_29 n47_29 c47_29) ∧
            cellAt h34 b3_9 (o3_9 + 4) = some (.slice a45_28 n45_28 c45_28) ∧
            cellAt h34 b3_9 (o3_9 + 3) = some (.slice a39_27 n39_27 c39_27) ∧
            appendH h34 ty_S_bool 1 [.slice none 0 0] a39_27 n39_27 c39_27 (some ⟨h32.size, 0, none⟩) 1 fun (a43_35 : Option Addr) (n43_35 c43_35 : Nat) (h35 : Heap) =>
            cellAt h35 b49_30 (o49_30 + x33_24.toNat) = some (.slice a50_31 n50_31 c50_31) ∧
            cellAt h35 h.size 4 = some (.slice a47_29 n47_29 c47_29) ∧
            cellAt h35 b3_9 (o3_9 + 4) = some (.slice a45_28 n45_28 c45_28) ∧
            CallsH PP fn_slices_Clone_int [.slice a50_31 n50_31 c50_31] h35 fun (v36 : Value) (h36 : Heap) =>
            ∃ (a51_37 : Option Addr) (n51_37 c51_37 : Nat), v36 = .slice a51_37 n51_37 c51_37 ∧
            cellAt h36 b3_9 (o3_9 + 4) = some (.slice a45_28 n45_28 c45_28) ∧
            ∀ h38 : Heap, h38 = newRowH h36 ty_S_int [.slice a51_37 n51_37 c51_37] →
            cellAt h38 b3_9 (o3_9 + 4) = some (.slice a45_28 n45_28 c45_28) ∧
            appendH h38 ty_S_int 1 [.slice none 0 0] a45_28 n45_28 c45_28 (some ⟨h36.size, 0, none⟩) 1 fun (a53_39 : Option Addr) (n53_39 c53_39 : Nat) (h39 : Heap) =>
            ∃ (e40 : TypeId) (c40 : List Value), Row h39 b3_9 e40 c40 ∧ o3_9 + 3 < c40.length ∧
            ∀ h41 : Heap, h41 = putRow h39 b3_9 e40 (c40.set (o3_9 + 3) (.slice a43_35 n43_35 c43_35)) →
            ∃ (e42 : TypeId) (c42 : List Value), Row h41 b3_9 e42 c42 ∧ o3_9 + 4 < c42.length ∧
            ∀ h43 : Heap, h43 = putRow h41 b3_9 e42 (c42.set (o3_9 + 4) (.slice a53_39 n53_39 c53_39)) →
            I23 [.int .i64 (IntKind.i64.wrap (x33_24 + 1))] h43 ∧ μ23 [.int .i64 (IntKind.i64.wrap (x33_24 + 1))] h43 < μ23 [.int .i64 x33_24] h23) ∧
          ((decide ((x33_24 : Int) < ((n31_22 : Nat) : Int))) = false →
            ∃ (a57_0_44 : Option Addr) (n57_0_44 c57_0_44 : Nat), cellAt h23 b3_9 o3_9 = some (.slice a57_0_44 n57_0_44 c57_0_44) ∧
            ∃ (a57_1_45 : Option Addr) (n57_1_45 c57_1_45 : Nat), cellAt h23 b3_9 (o3_9 + 1) = some (.slice a57_1_45 n57_1_45 c57_1_45) ∧
            ∃ (a57_2_46 : Option Addr) (n57_2_46 c57_2_46 : Nat), cellAt h23 b3_9 (o3_9 + 2) = some (.slice a57_2_46 n57_2_46 c57_2_46) ∧
            ∃ (a57_3_47 : Option Addr) (n57_3_47 c57_3_47 : Nat), cellAt h23 b3_9 (o3_9 + 3) = some (.slice a57_3_47 n57_3_47 c57_3_47) ∧
            ∃ (a57_4_48 : Option Addr) (n57_4_48 c57_4_48 : Nat), cellAt h23 b3_9 (o3_9 + 4) = some (.slice a57_4_48 n57_4_48 c57_4_48) ∧
            ∃ (e49 : TypeId) (c49 : List Value), Row h23 h6.size e49 c49 ∧ 0 + 5 ≤ c49.length ∧
            ∀ h50 : Heap, h50 = putRow h23 h6.size e49 (splice c49 0 [.slice a57_0_44 n57_0_44 c57_0_44, .slice a57_1_45 n57_1_45 c57_1_45, .slice a57_2_46 n57_2_46 c57_2_46, .slice a57_3_47 n57_3_47 c57_3_47, .slice a57_4_48 n57_4_48 c57_4_48]) →
            ∃ (ar0_0_51 : Option Addr) (nr0_0_51 cr0_0_51 : Nat), cellAt h50 h6.size 0 = some (.slice ar0_0_51 nr0_0_51 cr0_0_51) ∧
            ∃ (ar0_1_52 : Option Addr) (nr0_1_52 cr0_1_52 : Nat), cellAt h50 h6.size 1 = some (.slice ar0_1_52 nr0_1_52 cr0_1_52) ∧
            ∃ (ar0_2_53 : Option Addr) (nr0_2_53 cr0_2_53 : Nat), cellAt h50 h6.size 2 = some (.slice ar0_2_53 nr0_2_53 cr0_2_53) ∧
            ∃ (ar0_3_54 : Option Addr) (nr0_3_54 cr0_3_54 : Nat), cellAt h50 h6.size 3 = some (.slice ar0_3_54 nr0_3_54 cr0_3_54) ∧
            ∃ (ar0_4_55 : Option Addr) (nr0_4_55 cr0_4_55 : Nat), cellAt h50 h6.size 4 = some (.slice ar0_4_55 nr0_4_55 cr0_4_55) ∧
            R (.agg ⟨[.slice ar0_0_51 nr0_0_51 cr0_0_51, .slice ar0_1_52 nr0_1_52 cr0_1_52, .slice ar0_2_53 nr0_2_53 cr0_2_53, .slice ar0_3_54 nr0_3_54 cr0_3_54, .slice ar0_4_55 nr0_4_55 cr0_4_55]⟩) h50))))) → K8 [.pointer (some ⟨b3_9, o3_9, none⟩)] h8) →
  ∃ (a9_56 : Option Addr) (n9_56 c9_56 : Nat), cellAt h7 h.size 0 = some (.slice a9_56 n9_56 c9_56) ∧
  ∃ (a12_57 : Option Addr) (n12_57 c12_57 : Nat), cellAt h7 h.size 2 = some (.slice a12_57 n12_57 c12_57) ∧
  ((CallsH PP fn_slices_Clone_int [.slice a9_56 n9_56 c9_56] h7 fun (v65 : Value) (h65 : Heap) =>
    ∃ (a10_66 : Option Addr) (n10_66 c10_66 : Nat), v65 = .slice a10_66 n10_66 c10_66 ∧
    cellAt h65 h.size 2 = some (.slice a12_57 n12_57 c12_57) ∧
    ((CallsH PP fn_slices_Clone_int [.slice a12_57 n12_57 c12_57] h65 fun (v72 : Value) (h72 : Heap) =>
      ∃ (a13_73 : Option Addr) (n13_73 c13_73 : Nat), v72 = .slice a13_73 n13_73 c13_73 ∧
      ∀ h74 : Heap, h74 = newRowH h72 ty_impl_Bank [.slice none 0 0, .slice none 0 0, .slice none 0 0, .slice none 0 0, .slice none 0 0] →
      ∃ (e75 : TypeId) (c75 : List Value), Row h74 h72.size e75 c75 ∧ 0 + 5 ≤ c75.length ∧
      ∀ h76 : Heap, h76 = putRow h74 h72.size e75 (splice c75 0 [.slice a10_66 n10_66 c10_66, .slice none 0 0, .slice a13_73 n13_73 c13_73, .slice none 0 0, .slice none 0 0]) →
      K8 [.pointer (some ⟨h72.size, 0, none⟩)] h76) ∧
    (∀ h67 : Heap, h67 = newRowH h65 ty_impl_Bank [.slice none 0 0, .slice none 0 0, .slice none 0 0, .slice none 0 0, .slice none 0 0] →
      cellAt h67 h.size 2 = some (.slice a12_57 n12_57 c12_57) ∧
      CallsH PP fn_slices_Clone_int [.slice a12_57 n12_57 c12_57] h67 fun (v68 : Value) (h68 : Heap) =>
      ∃ (a13_69 : Option Addr) (n13_69 c13_69 : Nat), v68 = .slice a13_69 n13_69 c13_69 ∧
      ∃ (e70 : TypeId) (c70 : List Value), Row h68 h65.size e70 c70 ∧ 0 + 5 ≤ c70.length ∧
      ∀ h71 : Heap, h71 = putRow h68 h65.size e70 (splice c70 0 [.slice a10_66 n10_66 c10_66, .slice none 0 0, .slice a13_69 n13_69 c13_69, .slice none 0 0, .slice none 0 0]) →
      K8 [.pointer (some ⟨h65.size, 0, none⟩)] h71))) ∧
  (∀ h58 : Heap, h58 = newRowH h7 ty_impl_Bank [.slice none 0 0, .slice none 0 0, .slice none 0 0, .slice none 0 0, .slice none 0 0] →
    cellAt h58 h.size 2 = some (.slice a12_57 n12_57 c12_57) ∧
    cellAt h58 h.size 0 = some (.slice a9_56 n9_56 c9_56) ∧
    CallsH PP fn_slices_Clone_int [.slice a9_56 n9_56 c9_56] h58 fun (v59 : Value) (h59 : Heap) =>
    ∃ (a10_60 : Option Addr) (n10_60 c10_60 : Nat), v59 = .slice a10_60 n10_60 c10_60 ∧
    cellAt h59 h.size 2 = some (.slice a12_57 n12_57 c12_57) ∧
    CallsH PP fn_slices_Clone_int [.slice a12_57 n12_57 c12_57] h59 fun (v61 : Value) (h61 : Heap) =>
    ∃ (a13_62 : Option Addr) (n13_62 c13_62 : Nat), v61 = .slice a13_62 n13_62 c13_62 ∧
    ∃ (e63 : TypeId) (c63 : List Value), Row h61 h7.size e63 c63 ∧ 0 + 5 ≤ c63.length ∧
    ∀ h64 : Heap, h64 = putRow h61 h7.size e63 (splice c63 0 [.slice a10_60 n10_60 c10_60, .slice none 0 0, .slice a13_62 n13_62 c13_62, .slice none 0 0, .slice none 0 0]) →
    K8 [.pointer (some ⟨h7.size, 0, none⟩)] h64))
def plan_impl_cloneBank : Plan := .seq none (.leaf) (.seq (some [(3, .l (.ptrN))]) (.draw (.op 0 (.op 1 (.op 3 (.op 4 (.fork (.op 2 (.fork (.op 5 (.op 6 (.op 7 (.op 8 .done)))) (.op 7 (.op 5 (.op 6 (.op 8 .done)))))) (.op 7 (.op 2 (.op 5 (.op 6 (.op 8 .done))))))))))) (.seq none (.seq none (.leaf) (.block (.loop [(18, .l (.int .i64))] (.seq none (.leaf) (.seq none (.cond (.leaf) (.leaf)) (.seq none (.block (.seq none (.leaf) (.draw (.op 0 (.op 1 (.op 2 (.op 3 (.op 4 (.op 5 (.op 6 (.op 7 .done))))))))))) (.leaf))))))) (.seq none (.seq none (.leaf) (.block (.loop [(33, .l (.int .i64))] (.seq none (.leaf) (.seq none (.cond (.leaf) (.leaf)) (.seq none (.block (.seq none (.leaf) (.draw (.op 0 (.op 1 (.op 2 (.op 6 (.op 7 (.op 8 (.op 9 (.op 10 (.op 11 (.op 12 (.op 3 (.op 4 (.op 5 (.op 16 (.op 13 (.op 14 (.op 15 (.op 17 (.op 18 (.op 19 .done))))))))))))))))))))))) (.leaf))))))) (.seq none (.leaf) (.leaf)))))
theorem tie_impl_cloneBank : (fun (ap0_0_1 : Option Addr) (np0_0_1 cp0_0_1 : Nat) (ap0_1_2 : Option Addr) (np0_1_2 cp0_1_2 : Nat) (ap0_2_3 : Option Addr) (np0_2_3 cp0_2_3 : Nat) (ap0_3_4 : Option Addr) (np0_3_4 cp0_3_4 : Nat) (ap0_4_5 : Option Addr) (np0_4_5 cp0_4_5 : Nat) (h : Heap) (R : Value → Heap → Prop) => denF X0 Try.f100 (bodyOf Try.f100) plan_impl_cloneBank [.agg [.sl ap0_0_1 np0_0_1 cp0_0_1, .sl ap0_1_2 np0_1_2 cp0_1_2, .sl ap0_2_3 np0_2_3 cp0_2_3, .sl ap0_3_4 np0_3_4 cp0_3_4, .sl ap0_4_5 np0_4_5 cp0_4_5]] h R) = M_impl_cloneBank := by kernel_rfl
theorem calls_impl_cloneBank (ap0_0_1 : Option Addr) (np0_0_1 cp0_0_1 : Nat) (ap0_1_2 : Option Addr) (np0_1_2 cp0_1_2 : Nat) (ap0_2_3 : Option Addr) (np0_2_3 cp0_2_3 : Nat) (ap0_3_4 : Option Addr) (np0_3_4 cp0_3_4 : Nat) (ap0_4_5 : Option Addr) (np0_4_5 cp0_4_5 : Nat) {h : Heap} {R : Value → Heap → Prop} (hm : M_impl_cloneBank ap0_0_1 np0_0_1 cp0_0_1 ap0_1_2 np0_1_2 cp0_1_2 ap0_2_3 np0_2_3 cp0_2_3 ap0_3_4 np0_3_4 cp0_3_4 ap0_4_5 np0_4_5 cp0_4_5 h R) : CallsH PP fn_impl_cloneBank [.agg ⟨[.slice ap0_0_1 np0_0_1 cp0_0_1, .slice ap0_1_2 np0_1_2 cp0_1_2, .slice ap0_2_3 np0_2_3 cp0_2_3, .slice ap0_3_4 np0_3_4 cp0_3_4, .slice ap0_4_5 np0_4_5 cp0_4_5]⟩] h R :=
  callsH_of X0ok Try.func100 (by kernel_rfl) plan_impl_cloneBank [.agg [.sl ap0_0_1 np0_0_1 cp0_0_1, .sl ap0_1_2 np0_1_2 cp0_1_2, .sl ap0_2_3 np0_2_3 cp0_2_3, .sl ap0_3_4 np0_3_4 cp0_3_4, .sl ap0_4_5 np0_4_5 cp0_4_5]] (Eq.mpr (congrFun (congrFun (congrFun (congrFun (congrFun (congrFun (congrFun (congrFun (congrFun (congrFun (congrFun (congrFun (congrFun (congrFun (congrFun (congrFun (congrFun tie_impl_cloneBank ap0_0_1) np0_0_1) cp0_0_1) ap0_1_2) np0_1_2) cp0_1_2) ap0_2_3) np0_2_3) cp0_2_3) ap0_3_4) np0_3_4) cp0_3_4) ap0_4_5) np0_4_5) cp0_4_5) h) R) hm)
/- 30: impl.IsTaken -/
def M_impl_IsTaken (ap0_0_1 : Option Addr) (np0_0_1 cp0_0_1 : Nat) (ap0_1_2 : Option Addr) (np0_1_2 cp0_1_2 : Nat) (ap0_2_3 : Option Addr) (np0_2_3 cp0_2_3 : Nat) (ap0_3_4 : Option Addr) (np0_3_4 cp0_3_4 : Nat) (ap0_4_5 : Option Addr) (np0_4_5 cp0_4_5 : Nat) (h : Heap) (R : Value → Heap → Prop) : Prop :=
  ∀ h6 : Heap, h6 = newRowH h ty_impl_Bank [.slice ap0_0_1 np0_0_1 cp0_0_1, .slice ap0_1_2 np0_1_2 cp0_1_2, .slice ap0_2_3 np0_2_3 cp0_2_3, .slice ap0_3_4 np0_3_4 cp0_3_4, .slice ap0_4_5 np0_4_5 cp0_4_5] →
  ∃ (a4_0_7 : Option Addr) (n4_0_7 c4_0_7 : Nat), cellAt h6 h.size 0 = some (.slice a4_0_7 n4_0_7 c4_0_7) ∧
  ∃ (a4_1_8 : Option Addr) (n4_1_8 c4_1_8 : Nat), cellAt h6 h.size 1 = some (.slice a4_1_8 n4_1_8 c4_1_8) ∧
  ∃ (a4_2_9 : Option Addr) (n4_2_9 c4_2_9 : Nat), cellAt h6 h.size 2 = some (.slice a4_2_9 n4_2_9 c4_2_9) ∧
  ∃ (a4_3_10 : Option Addr) (n4_3_10 c4_3_10 : Nat), cellAt h6 h.size 3 = some (.slice a4_3_10 n4_3_10 c4_3_10) ∧
  ∃ (a4_4_11 : Option Addr) (n4_4_11 c4_4_11 : Nat), cellAt h6 h.size 4 = some (.slice a4_4_11 n4_4_11 c4_4_11) ∧
  CallsH PP fn_impl_isBank [.agg ⟨[.slice a4_0_7 n4_0_7 c4_0_7, .slice a4_1_8 n4_1_8 c4_1_8, .slice a4_2_9 n4_2_9 c4_2_9, .slice a4_3_10 n4_3_10 c4_3_10, .slice a4_4_11 n4_4_11 c4_4_11]⟩] h6 fun (v12 : Value) (h12 : Heap) =>
  ∃ (t5_13 : Bool), v12 = .bool t5_13 ∧
  (((!t5_13) = true →
    R (.tuple ⟨[.bool false, .bool false]⟩) h12) ∧
  ((!t5_13) = false →
    CallsH PP fn_impl_Bank_isTaken [.pointer (some ⟨h.size, 0, none⟩)] h12 fun (v14 : Value) (h14 : Heap) =>
    ∃ (t7_15 : Bool), v14 = .bool t7_15 ∧
    R (.tuple ⟨[.bool t7_15, .bool true]⟩) h14))
def plan_impl_IsTaken : Plan := .seq none (.leaf) (.seq none (.seq none (.leaf) (.cond (.seq none (.leaf) (.leaf)) (.leaf))) (.seq none (.leaf) (.leaf)))
theorem tie_impl_IsTaken : (fun (ap0_0_1 : Option Addr) (np0_0_1 cp0_0_1 : Nat) (ap0_1_2 : Option Addr) (np0_1_2 cp0_1_2 : Nat) (ap0_2_3 : Option Addr) (np0_2_3 cp0_2_3 : Nat) (ap0_3_4 : Option Addr) (np0_3_4 cp0_3_4 : Nat) (ap0_4_5 : Option Addr) (np0_4_5 cp0_4_5 : Nat) (h : Heap) (R : Value → Heap → Prop) => denF X0 Try.f30 (bodyOf Try.f30) plan_impl_IsTaken [.agg [.sl ap0_0_1 np0_0_1 cp0_0_1, .sl ap0_1_2 np0_1_2 cp0_1_2, .sl ap0_2_3 np0_2_3 cp0_2_3, .sl ap0_3_4 np0_3_4 cp0_3_4, .sl ap0_4_5 np0_4_5 cp0_4_5]] h R) = M_impl_IsTaken := by kernel_rfl
theorem calls_impl_IsTaken (ap0_0_1 : Option Addr) (np0_0_1 cp0_0_1 : Nat) (ap0_1_2 : Option Addr) (np0_1_2 cp0_1_2 : Nat) (ap0_2_3 : Option Addr) (np0_2_3 cp0_2_3 : Nat) (ap0_3_4 : Option Addr) (np0_3_4 cp0_3_4 : Nat) (ap0_4_5 : Option Addr) (np0_4_5 cp0_4_5 : Nat) {h : Heap} {R : Value → Heap → Prop} (hm : M_impl_IsTaken ap0_0_1 np0_0_1 cp0_0_1 ap0_1_2 np0_1_2 cp0_1_2 ap0_2_3 np0_2_3 cp0_2_3 ap0_3_4 np0_3_4 cp0_3_4 ap0_4_5 np0_4_5 cp0_4_5 h R) : CallsH PP fn_impl_IsTaken [.agg ⟨[.slice ap0_0_1 np0_0_1 cp0_0_1, .slice ap0_1_2 np0_1_2 cp0_1_2, .slice ap0_2_3 np0_2_3 cp0_2_3, .slice ap0_3_4 np0_3_4 cp0_3_4, .slice ap0_4_5 np0_4_5 cp0_4_5]⟩] h R :=
  callsH_of X0ok Try.func30 (by kernel_rfl) plan_impl_IsTaken [.agg [.sl ap0_0_1 np0_0_1 cp0_0_1, .sl ap0_1_2 np0_1_2 cp0_1_2, .sl ap0_2_3 np0_2_3 cp0_2_3, .sl ap0_3_4 np0_3_4 cp0_3_4, .sl ap0_4_5 np0_4_5 cp0_4_5]] (Eq.mpr (congrFun (congrFun (congrFun (congrFun (congrFun (congrFun (congrFun (congrFun (congrFun (congrFun (congrFun (congrFun (congrFun (congrFun (congrFun (congrFun (congrFun tie_impl_IsTaken ap0_0_1) np0_0_1) cp0_0_1) ap0_1_2) np0_1_2) cp0_1_2) ap0_2_3) np0_2_3) cp0_2_3) ap0_3_4) np0_3_4) cp0_3_4) ap0_4_5) np0_4_5) cp0_4_5) h) R) hm)
/- 101: (*impl.Bank).isTaken -/
def M_impl_Bank_isTaken (b0 o0 : Nat) (h : Heap) (R : Value → Heap → Prop) : Prop :=
  ∃ (a10_1 : Option Addr) (n10_1 c10_1 : Nat), cellAt h b0 (o0 + 3) = some (.slice a10_1 n10_1 c10_1) ∧
  ∃ (I2 : List Value → Heap → Prop) (μ2 : List Value → Heap → Nat), I2 [.int .i64 0] h ∧
  ∀ h2 : Heap, ∀ (x12_3 : Int), I2 [.int .i64 x12_3] h2 →
    (((decide ((x12_3 : Int) < ((n10_1 : Nat) : Int))) = true →
      ∃ (b15_4 o15_4 : Nat), a10_1 = some ⟨b15_4, o15_4, none⟩ ∧ (0 : Int) ≤ x12_3 ∧ (x12_3 : Int) < ((n10_1 : Nat) : Int) ∧
      ∃ (a16_5 : Option Addr) (n16_5 c16_5 : Nat), cellAt h2 b15_4 (o15_4 + x12_3.toNat) = some (.slice a16_5 n16_5 c16_5) ∧
      ∃ (a20_6 : Option Addr) (n20_6 c20_6 : Nat), cellAt h2 b0 (o0 + 2) = some (.slice a20_6 n20_6 c20_6) ∧
      ∃ (b22_7 o22_7 : Nat), a20_6 = some ⟨b22_7, o22_7, none⟩ ∧ (0 : Int) ≤ x12_3 ∧ (x12_3 : Int) < ((n20_6 : Nat) : Int) ∧
      ∃ (x23_8 : Int), cellAt h2 b22_7 (o22_7 + x12_3.toNat) = some (.int .i64 x23_8) ∧
      (((decide ((x23_8 : Int) < 0)) = true →
        R (.bool false) h2) ∧
      ((decide ((x23_8 : Int) < 0)) = false →
        ∃ (I9 : List Value → Heap → Prop) (μ9 : List Value → Heap → Nat), I9 [.int .i64 0] h2 ∧
        ∀ h9 : Heap, ∀ (x27_10 : Int), I9 [.int .i64 x27_10] h9 →
          (((decide ((x27_10 : Int) < ((n16_5 : Nat) : Int))) = true →
            ∃ (b30_11 o30_11 : Nat), a16_5 = some ⟨b30_11, o30_11, none⟩ ∧ (0 : Int) ≤ x27_10 ∧ (x27_10 : Int) < ((n16_5 : Nat) : Int) ∧
            ∃ (t31_12 : Bool), cellAt h9 b30_11 (o30_11 + x27_10.toNat) = some (.bool t31_12) ∧
            ((((x27_10 : Int) != x12_3) = true →
              (((!t31_12) = true →
                R (.bool false) h9) ∧
              ((!t31_12) = false →
                I9 [.int .i64 (IntKind.i64.wrap (x27_10 + 1))] h9 ∧ μ9 [.int .i64 (IntKind.i64.wrap (x27_10 + 1))] h9 < μ9 [.int .i64 x27_10] h9))) ∧
            (((x27_10 : Int) != x12_3) = false →
              I9 [.int .i64 (IntKind.i64.wrap (x27_10 + 1))] h9 ∧ μ9 [.int .i64 (IntKind.i64.wrap (x27_10 + 1))] h9 < μ9 [.int .i64 x27_10] h9))) ∧
          ((decide ((x27_10 : Int) < ((n16_5 : Nat) : Int))) = false →
            I2 [.int .i64 (IntKind.i64.wrap (x12_3 + 1))] h9 ∧ μ2 [.int .i64 (IntKind.i64.wrap (x12_3 + 1))] h9 < μ2 [.int .i64 x12_3] h2))))) ∧
    ((decide ((x12_3 : Int) < ((n10_1 : Nat) : Int))) = false →
      R (.bool true) h2))
def plan_impl_Bank_isTaken : Plan := .seq none (.leaf) (.seq none (.seq none (.leaf) (.block (.loop [(12, .l (.int .i64))] (.seq none (.leaf) (.seq none (.cond (.leaf) (.leaf)) (.seq none (.block (.seq none (.leaf) (.seq none (.seq none (.leaf) (.cond (.seq none (.leaf) (.leaf)) (.leaf))) (.seq none (.leaf) (.block (.loop [(27, .l (.int .i64))] (.seq none (.leaf) (.seq none (.cond (.leaf) (.leaf)) (.seq none (.block (.seq none (.leaf) (.seq none (.leaf) (.cond (.seq none (.leaf) (.leaf)) (.leaf))))) (.leaf)))))))))) (.leaf))))))) (.seq none (.leaf) (.leaf)))
theorem tie_impl_Bank_isTaken : (fun (b0 o0 : Nat) (h : Heap) (R : Value → Heap → Prop) => denF X0 Try.f101 (bodyOf Try.f101) plan_impl_Bank_isTaken [.l (.ptrB b0 o0)] h R) = M_impl_Bank_isTaken := by kernel_rfl
theorem calls_impl_Bank_isTaken (b0 o0 : Nat) {h : Heap} {R : Value → Heap → Prop} (hm : M_impl_Bank_isTaken b0 o0 h R) : CallsH PP fn_impl_Bank_isTaken [.pointer (some ⟨b0, o0, none⟩)] h R :=
  callsH_of X0ok Try.func101 (by kernel_rfl) plan_impl_Bank_isTaken [.l (.ptrB b0 o0)] (Eq.mpr (congrFun (congrFun (congrFun (congrFun tie_impl_Bank_isTaken b0) o0) h) R) hm)
/- 31: impl.PictureOf -/
def M_impl_PictureOf (ap0_0_1 : Option Addr) (np0_0_1 cp0_0_1 : Nat) (ap0_1_2 : Option Addr) (np0_1_2 cp0_1_2 : Nat) (ap0_2_3 : Option Addr) (np0_2_3 cp0_2_3 : Nat) (ap0_3_4 : Option Addr) (np0_3_4 cp0_3_4 : Nat) (ap0_4_5 : Option Addr) (np0_4_5 cp0_4_5 : Nat) (h : Heap) (R : Value → Heap → Prop) : Prop :=
  ∀ h6 : Heap, h6 = newRowH h ty_impl_Bank [.slice ap0_0_1 np0_0_1 cp0_0_1, .slice ap0_1_2 np0_1_2 cp0_1_2, .slice ap0_2_3 np0_2_3 cp0_2_3, .slice ap0_3_4 np0_3_4 cp0_3_4, .slice ap0_4_5 np0_4_5 cp0_4_5] →
  ∃ (a7_0_7 : Option Addr) (n7_0_7 c7_0_7 : Nat), cellAt h6 h.size 0 = some (.slice a7_0_7 n7_0_7 c7_0_7) ∧
  ∃ (a7_1_8 : Option Addr) (n7_1_8 c7_1_8 : Nat), cellAt h6 h.size 1 = some (.slice a7_1_8 n7_1_8 c7_1_8) ∧
  ∃ (a7_2_9 : Option Addr) (n7_2_9 c7_2_9 : Nat), cellAt h6 h.size 2 = some (.slice a7_2_9 n7_2_9 c7_2_9) ∧
  ∃ (a7_3_10 : Option Addr) (n7_3_10 c7_3_10 : Nat), cellAt h6 h.size 3 = some (.slice a7_3_10 n7_3_10 c7_3_10) ∧
  ∃ (a7_4_11 : Option Addr) (n7_4_11 c7_4_11 : Nat), cellAt h6 h.size 4 = some (.slice a7_4_11 n7_4_11 c7_4_11) ∧
  CallsH PP fn_impl_isBank [.agg ⟨[.slice a7_0_7 n7_0_7 c7_0_7, .slice a7_1_8 n7_1_8 c7_1_8, .slice a7_2_9 n7_2_9 c7_2_9, .slice a7_3_10 n7_3_10 c7_3_10, .slice a7_4_11 n7_4_11 c7_4_11]⟩] h6 fun (v12 : Value) (h12 : Heap) =>
  ∃ (t8_13 : Bool), v12 = .bool t8_13 ∧
  (((!t8_13) = false →
    CallsH PP fn_impl_Bank_isTaken [.pointer (some ⟨h.size, 0, none⟩)] h12 fun (v14 : Value) (h14 : Heap) =>
    ∃ (t11_15 : Bool), v14 = .bool t11_15 ∧
    (((!t11_15) = true →
      R (.tuple ⟨[.int .i64 0, .bool false]⟩) h14) ∧
    ((!t11_15) = false →
      ∃ (a15_16 : Option Addr) (n15_16 c15_16 : Nat), cellAt h14 h.size 2 = some (.slice a15_16 n15_16 c15_16) ∧
      ∃ (a17_17 : Option Addr) (n17_17 c17_17 : Nat), cellAt h14 h.size 4 = some (.slice a17_17 n17_17 c17_17) ∧
      CallsH PP fn_slices_Concat_int [.slice a17_17 n17_17 c17_17] h14 fun (v18 : Value) (h18 : Heap) =>
      ∃ (a18_19 : Option Addr) (n18_19 c18_19 : Nat), v18 = .slice a18_19 n18_19 c18_19 ∧
      cellAt h18 h.size 2 = some (.slice a15_16 n15_16 c15_16) ∧
      ∀ h20 : Heap, h20 = newRowH h18 ty_S_int [.slice a15_16 n15_16 c15_16, .slice a18_19 n18_19 c18_19] →
      CallsH PP fn_slices_Concat_int [.slice (some ⟨h18.size, 0, none⟩) 2 2] h20 fun (v21 : Value) (h21 : Heap) =>
      ∃ (a20_22 : Option Addr) (n20_22 c20_22 : Nat), v21 = .slice a20_22 n20_22 c20_22 ∧
      ∃ (I23 : List Value → Heap → Prop) (μ23 : List Value → Heap → Nat), I23 [.int .i64 0, .int .i64 0] h21 ∧
      ∀ h23 : Heap, ∀ (x4_24 : Int), ∀ (x22_25 : Int), I23 [.int .i64 x4_24, .int .i64 x22_25] h23 →
        (((decide ((x22_25 : Int) < ((n20_22 : Nat) : Int))) = true →
          ∃ (b24_26 o24_26 : Nat), a20_22 = some ⟨b24_26, o24_26, none⟩ ∧ (0 : Int) ≤ x22_25 ∧ (x22_25 : Int) < ((n20_22 : Nat) : Int) ∧
          ∃ (x25_27 : Int), cellAt h23 b24_26 (o24_26 + x22_25.toNat) = some (.int .i64 x25_27) ∧
          I23 [.int .i64 (IntKind.i64.wrap (x4_24 + x25_27)), .int .i64 (IntKind.i64.wrap (x22_25 + 1))] h23 ∧ μ23 [.int .i64 (IntKind.i64.wrap (x4_24 + x25_27)), .int .i64 (IntKind.i64.wrap (x22_25 + 1))] h23 < μ23 [.int .i64 x4_24, .int .i64 x22_25] h23) ∧
        ((decide ((x22_25 : Int) < ((n20_22 : Nat) : Int))) = false →
          R (.tuple ⟨[.int .i64 x4_24, .bool true]⟩) h23))))) ∧
  ((!t8_13) = true →
    R (.tuple ⟨[.int .i64 0, .bool false]⟩) h12))
def plan_impl_PictureOf : Plan := .seq none (.leaf) (.seq none (.seq none (.leaf) (.cond (.seq none (.leaf) (.leaf)) (.leaf))) (.seq none (.leaf) (.seq none (.seq none (.draw (.op 0 (.op 1 (.op 2 (.op 3 (.op 8 (.op 4 (.op 5 (.op 6 (.op 7 .done)))))))))) (.block (.loop [(4, .l (.int .i64)), (22, .l (.int .i64))] (.seq none (.leaf) (.seq none (.cond (.leaf) (.leaf)) (.seq none (.block (.seq none (.leaf) (.leaf))) (.leaf))))))) (.seq none (.leaf) (.leaf)))))
theorem tie_impl_PictureOf : (fun (ap0_0_1 : Option Addr) (np0_0_1 cp0_0_1 : Nat) (ap0_1_2 : Option Addr) (np0_1_2 cp0_1_2 : Nat) (ap0_2_3 : Option Addr) (np0_2_3 cp0_2_3 : Nat) (ap0_3_4 : Option Addr) (np0_3_4 cp0_3_4 : Nat) (ap0_4_5 : Option Addr) (np0_4_5 cp0_4_5 : Nat) (h : Heap) (R : Value → Heap → Prop) => denF X0 Try.f31 (bodyOf Try.f31) plan_impl_PictureOf [.agg [.sl ap0_0_1 np0_0_1 cp0_0_1, .sl ap0_1_2 np0_1_2 cp0_1_2, .sl ap0_2_3 np0_2_3 cp0_2_3, .sl ap0_3_4 np0_3_4 cp0_3_4, .sl ap0_4_5 np0_4_5 cp0_4_5]] h R) = M_impl_PictureOf := by kernel_rfl
theorem calls_impl_PictureOf (ap0_0_1 : Option Addr) (np0_0_1 cp0_0_1 : Nat) (ap0_1_2 : Option Addr) (np0_1_2 cp0_1_2 : Nat) (ap0_2_3 : Option Addr) (np0_2_3 cp0_2_3 : Nat) (ap0_3_4 : Option Addr) (np0_3_4 cp0_3_4 : Nat) (ap0_4_5 : Option Addr) (np0_4_5 cp0_4_5 : Nat) {h : Heap} {R : Value → Heap → Prop} (hm : M_impl_PictureOf ap0_0_1 np0_0_1 cp0_0_1 ap0_1_2 np0_1_2 cp0_1_2 ap0_2_3 np0_2_3 cp0_2_3 ap0_3_4 np0_3_4 cp0_3_4 ap0_4_5 np0_4_5 cp0_4_5 h R) : CallsH PP fn_impl_PictureOf [.agg ⟨[.slice ap0_0_1 np0_0_1 cp0_0_1, .slice ap0_1_2 np0_1_2 cp0_1_2, .slice ap0_2_3 np0_2_3 cp0_2_3, .slice ap0_3_4 np0_3_4 cp0_3_4, .slice ap0_4_5 np0_4_5 cp0_4_5]⟩] h R :=
  callsH_of X0ok Try.func31 (by kernel_rfl) plan_impl_PictureOf [.agg [.sl ap0_0_1 np0_0_1 cp0_0_1, .sl ap0_1_2 np0_1_2 cp0_1_2, .sl ap0_2_3 np0_2_3 cp0_2_3, .sl ap0_3_4 np0_3_4 cp0_3_4, .sl ap0_4_5 np0_4_5 cp0_4_5]] (Eq.mpr (congrFun (congrFun (congrFun (congrFun (congrFun (congrFun (congrFun (congrFun (congrFun (congrFun (congrFun (congrFun (congrFun (congrFun (congrFun (congrFun (congrFun tie_impl_PictureOf ap0_0_1) np0_0_1) cp0_0_1) ap0_1_2) np0_1_2) cp0_1_2) ap0_2_3) np0_2_3) cp0_2_3) ap0_3_4) np0_3_4) cp0_3_4) ap0_4_5) np0_4_5) cp0_4_5) h) R) hm)
/- 99: slices.Concat[[]int,int] -/
def M_slices_Concat_int (ap0_1 : Option Addr) (np0_1 cp0_1 : Nat) (h : Heap) (R : Value → Heap → Prop) : Prop :=
  ∃ (I2 : List Value → Heap → Prop) (μ2 : List Value → Heap → Nat), I2 [.int .i64 0, .int .i64 0] h ∧
  ∀ h2 : Heap, ∀ (x3_3 : Int), ∀ (x11_4 : Int), I2 [.int .i64 x3_3, .int .i64 x11_4] h2 →
    (((decide ((x11_4 : Int) < ((np0_1 : Nat) : Int))) = true →
      ∃ (b13_5 o13_5 : Nat), ap0_1 = some ⟨b13_5, o13_5, none⟩ ∧ (0 : Int) ≤ x11_4 ∧ (x11_4 : Int) < ((np0_1 : Nat) : Int) ∧
      ∃ (a14_6 : Option Addr) (n14_6 c14_6 : Nat), cellAt h2 b13_5 (o13_5 + x11_4.toNat) = some (.slice a14_6 n14_6 c14_6) ∧
      (((decide (((IntKind.i64.wrap (x3_3 + ((n14_6 : Nat) : Int))) : Int) < 0)) = true →
        False) ∧
      ((decide (((IntKind.i64.wrap (x3_3 + ((n14_6 : Nat) : Int))) : Int) < 0)) = false →
        I2 [.int .i64 (IntKind.i64.wrap (x3_3 + ((n14_6 : Nat) : Int))), .int .i64 (IntKind.i64.wrap (x11_4 + 1))] h2 ∧ μ2 [.int .i64 (IntKind.i64.wrap (x3_3 + ((n14_6 : Nat) : Int))), .int .i64 (IntKind.i64.wrap (x11_4 + 1))] h2 < μ2 [.int .i64 x3_3, .int .i64 x11_4] h2))) ∧
    ((decide ((x11_4 : Int) < ((np0_1 : Nat) : Int))) = false →
      CallsH PP fn_slices_Grow_int [.slice none 0 0, .int .i64 x3_3] h2 fun (v7 : Value) (h7 : Heap) =>
      ∃ (a24_8 : Option Addr) (n24_8 c24_8 : Nat), v7 = .slice a24_8 n24_8 c24_8 ∧
      ∃ (I9 : List Value → Heap → Prop) (μ9 : List Value → Heap → Nat), I9 [.slice a24_8 n24_8 c24_8, .int .i64 0] h7 ∧
      ∀ h9 : Heap, ∀ (a6_10 : Option Addr) (n6_10 c6_10 : Nat), ∀ (x27_11 : Int), I9 [.slice a6_10 n6_10 c6_10, .int .i64 x27_11] h9 →
        (((decide ((x27_11 : Int) < ((np0_1 : Nat) : Int))) = true →
          ∃ (b29_12 o29_12 : Nat), ap0_1 = some ⟨b29_12, o29_12, none⟩ ∧ (0 : Int) ≤ x27_11 ∧ (x27_11 : Int) < ((np0_1 : Nat) : Int) ∧
          ∃ (a30_13 : Option Addr) (n30_13 c30_13 : Nat), cellAt h9 b29_12 (o29_12 + x27_11.toNat) = some (.slice a30_13 n30_13 c30_13) ∧
          appendH h9 ty_int 1 [.int .i64 0] a6_10 n6_10 c6_10 a30_13 n30_13 fun (a33_14 : Option Addr) (n33_14 c33_14 : Nat) (h14 : Heap) =>
          I9 [.slice a33_14 n33_14 c33_14, .int .i64 (IntKind.i64.wrap (x27_11 + 1))] h14 ∧ μ9 [.slice a33_14 n33_14 c33_14, .int .i64 (IntKind.i64.wrap (x27_11 + 1))] h14 < μ9 [.slice a6_10 n6_10 c6_10, .int .i64 x27_11] h9) ∧
        ((decide ((x27_11 : Int) < ((np0_1 : Nat) : Int))) = false →
          R (.slice a6_10 n6_10 c6_10) h9))))
def plan_slices_Concat_int : Plan := .seq none (.leaf) (.seq none (.leaf) (.seq none (.seq none (.leaf) (.block (.loop [(3, .l (.int .i64)), (11, .l (.int .i64))] (.seq none (.leaf) (.seq none (.cond (.leaf) (.leaf)) (.seq none (.block (.seq none (.leaf) (.seq none (.leaf) (.seq none (.leaf) (.cond (.leaf) (.leaf)))))) (.leaf))))))) (.seq none (.leaf) (.seq none (.seq none (.leaf) (.block (.loop [(6, .l (.slice)), (27, .l (.int .i64))] (.seq none (.leaf) (.seq none (.cond (.leaf) (.leaf)) (.seq none (.block (.seq none (.leaf) (.leaf))) (.leaf))))))) (.seq none (.leaf) (.leaf))))))
theorem tie_slices_Concat_int : (fun (ap0_1 : Option Addr) (np0_1 cp0_1 : Nat) (h : Heap) (R : Value → Heap → Prop) => denF X0 Try.f99 (bodyOf Try.f99) plan_slices_Concat_int [.l (.sl ap0_1 np0_1 cp0_1)] h R) = M_slices_Concat_int := by kernel_rfl
theorem calls_slices_Concat_int (ap0_1 : Option Addr) (np0_1 cp0_1 : Nat) {h : Heap} {R : Value → Heap → Prop} (hm : M_slices_Concat_int ap0_1 np0_1 cp0_1 h R) : CallsH PP fn_slices_Concat_int [.slice ap0_1 np0_1 cp0_1] h R :=
  callsH_of X0ok Try.func99 (by kernel_rfl) plan_slices_Concat_int [.l (.sl ap0_1 np0_1 cp0_1)] (Eq.mpr (congrFun (congrFun (congrFun (congrFun (congrFun tie_slices_Concat_int ap0_1) np0_1) cp0_1) h) R) hm)
/- 167: slices.Clone[[]bool,bool] -/
def M_slices_Clone_bool (ap0_1 : Option Addr) (np0_1 cp0_1 : Nat) (h : Heap) (R : Value → Heap → Prop) : Prop :=
  ((ap0_1.isNone = true →
    R (.slice none 0 0) h) ∧
  (ap0_1.isNone = false →
    ∀ h2 : Heap, h2 = newRowH h ty_bool [] →
    appendH h2 ty_bool 1 [.bool false] (some ⟨h.size, 0, none⟩) 0 0 ap0_1 np0_1 fun (a7_3 : Option Addr) (n7_3 c7_3 : Nat) (h3 : Heap) =>
    R (.slice a7_3 n7_3 c7_3) h3))
def plan_slices_Clone_bool : Plan := .seq none (.leaf) (.seq none (.seq none (.leaf) (.cond (.seq none (.leaf) (.leaf)) (.leaf))) (.seq none (.leaf) (.leaf)))
theorem tie_slices_Clone_bool : (fun (ap0_1 : Option Addr) (np0_1 cp0_1 : Nat) (h : Heap) (R : Value → Heap → Prop) => denF X0 Try.f167 (bodyOf Try.f167) plan_slices_Clone_bool [.l (.sl ap0_1 np0_1 cp0_1)] h R) = M_slices_Clone_bool := by kernel_rfl
theorem calls_slices_Clone_bool (ap0_1 : Option Addr) (np0_1 cp0_1 : Nat) {h : Heap} {R : Value → Heap → Prop} (hm : M_slices_Clone_bool ap0_1 np0_1 cp0_1 h R) : CallsH PP fn_slices_Clone_bool [.slice ap0_1 np0_1 cp0_1] h R :=
  callsH_of X0ok Try.func167 (by kernel_rfl) plan_slices_Clone_bool [.l (.sl ap0_1 np0_1 cp0_1)] (Eq.mpr (congrFun (congrFun (congrFun (congrFun (congrFun tie_slices_Clone_bool ap0_1) np0_1) cp0_1) h) R) hm)
/- 166: slices.Grow[[]int,int] -/
def M_slices_Grow_int (ap0_1 : Option Addr) (np0_1 cp0_1 : Nat) (xp1_2 : Int) (h : Heap) (R : Value → Heap → Prop) : Prop :=
  (((decide ((xp1_2 : Int) < 0)) = true →
    False) ∧
  ((decide ((xp1_2 : Int) < 0)) = false →
    (((decide (((IntKind.i64.wrap (xp1_2 - (IntKind.i64.wrap (((cp0_1 : Nat) : Int) - ((np0_1 : Nat) : Int))))) : Int) > 0)) = true →
      (0 : Int) ≤ 0 ∧ (0 : Int) ≤ ((cp0_1 : Nat) : Int) ∧ ((cp0_1 : Nat) : Int) ≤ ((cp0_1 : Nat) : Int) ∧
      appendZH h ty_int 1 [.int .i64 0] ap0_1 cp0_1 cp0_1 (IntKind.i64.wrap (xp1_2 - (IntKind.i64.wrap (((cp0_1 : Nat) : Int) - ((np0_1 : Nat) : Int))))) fun (a22_3 : Option Addr) (n22_3 c22_3 : Nat) (h3 : Heap) =>
      (0 : Int) ≤ 0 ∧ (0 : Int) ≤ ((np0_1 : Nat) : Int) ∧ ((np0_1 : Nat) : Int) ≤ ((c22_3 : Nat) : Int) ∧
      R (.slice a22_3 np0_1 c22_3) h3) ∧
    ((decide (((IntKind.i64.wrap (xp1_2 - (IntKind.i64.wrap (((cp0_1 : Nat) : Int) - ((np0_1 : Nat) : Int))))) : Int) > 0)) = false →
      R (.slice ap0_1 np0_1 cp0_1) h))))
def plan_slices_Grow_int : Plan := .seq none (.leaf) (.seq none (.seq none (.leaf) (.cond (.leaf) (.leaf))) (.seq none (.seq none (.leaf) (.seq none (.leaf) (.cond (.leaf) (.leaf)))) (.seq none (.leaf) (.leaf))))
theorem tie_slices_Grow_int : (fun (ap0_1 : Option Addr) (np0_1 cp0_1 : Nat) (xp1_2 : Int) (h : Heap) (R : Value → Heap → Prop) => denF X0 Try.f166 (bodyOf Try.f166) plan_slices_Grow_int [.l (.sl ap0_1 np0_1 cp0_1), .l (.int .i64 xp1_2)] h R) = M_slices_Grow_int := by kernel_rfl
theorem calls_slices_Grow_int (ap0_1 : Option Addr) (np0_1 cp0_1 : Nat) (xp1_2 : Int) {h : Heap} {R : Value → Heap → Prop} (hm : M_slices_Grow_int ap0_1 np0_1 cp0_1 xp1_2 h R) : CallsH PP fn_slices_Grow_int [.slice ap0_1 np0_1 cp0_1, .int .i64 xp1_2] h R :=
  callsH_of X0ok Try.func166 (by kernel_rfl) plan_slices_Grow_int [.l (.sl ap0_1 np0_1 cp0_1), .l (.int .i64 xp1_2)] (Eq.mpr (congrFun (congrFun (congrFun (congrFun (congrFun (congrFun tie_slices_Grow_int ap0_1) np0_1) cp0_1) xp1_2) h) R) hm)
end Go.Proofs.Ytjmhahjmbmiepaa.D
