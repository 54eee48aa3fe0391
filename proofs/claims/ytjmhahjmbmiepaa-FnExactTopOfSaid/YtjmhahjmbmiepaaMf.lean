/- The M-code of functions: what their code comes to, read at the heap. PRINTED by gen.py. -/
import Derived.Test.YtjmhahjmbmiepaaTab
namespace Go.Proofs.Ytjmhahjmbmiepaa.D
open Go Go.Proofs
set_option linter.unusedVariables false
set_option linter.unusedSimpArgs false
set_option maxRecDepth 100000
/- 33: spec.PlayPlain -/
def M_spec_PlayPlain (ap0_1 : Option Addr) (np0_1 cp0_1 : Nat) (h : Heap) (R : Value → Heap → Prop) : Prop :=
  ∀ h2 : Heap, h2 = newRowH h ty_impl_Head [.slice none 0 0, .int .i64 0] →
  (((decide ((((np0_1 : Nat) : Int) : Int) > 60)) = true →
    ∃ (e3 : TypeId) (c3 : List Value), Row h2 h.size e3 c3 ∧ 0 + 2 ≤ c3.length ∧
    ∀ h4 : Heap, h4 = putRow h2 h.size e3 (splice c3 0 [.slice none 0 0, .int .i64 0]) →
    ∃ (ar0_0_5 : Option Addr) (nr0_0_5 cr0_0_5 : Nat), cellAt h4 h.size 0 = some (.slice ar0_0_5 nr0_0_5 cr0_0_5) ∧
    ∃ (xr0_1_6 : Int), cellAt h4 h.size 1 = some (.int .i64 xr0_1_6) ∧
    R (.tuple ⟨[.agg ⟨[.slice ar0_0_5 nr0_0_5 cr0_0_5, .int .i64 xr0_1_6]⟩, .bool false]⟩) h4) ∧
  ((decide ((((np0_1 : Nat) : Int) : Int) > 60)) = false →
    ∃ (I7 : List Value → Heap → Prop) (μ7 : List Value → Heap → Nat), I7 [.slice none 0 0, .int .i64 0] h2 ∧
    ∀ h7 : Heap, ∀ (a4_8 : Option Addr) (n4_8 c4_8 : Nat), ∀ (x13_9 : Int), I7 [.slice a4_8 n4_8 c4_8, .int .i64 x13_9] h7 →
      (((decide ((x13_9 : Int) < ((np0_1 : Nat) : Int))) = true →
        ∃ (b15_10 o15_10 : Nat), ap0_1 = some ⟨b15_10, o15_10, none⟩ ∧ (0 : Int) ≤ x13_9 ∧ (x13_9 : Int) < ((np0_1 : Nat) : Int) ∧
        ∃ (x16_0_11 : Int), cellAt h7 b15_10 (o15_10 + (x13_9.toNat * 5)) = some (.int .i64 x16_0_11) ∧
        ∃ (x16_1_12 : Int), cellAt h7 b15_10 (o15_10 + (x13_9.toNat * 5) + 1) = some (.int .i64 x16_1_12) ∧
        ∃ (s16_2_13 : ByteArray), cellAt h7 b15_10 (o15_10 + (x13_9.toNat * 5) + 2) = some (.string s16_2_13) ∧
        ∃ (x16_3_14 : Int), cellAt h7 b15_10 (o15_10 + (x13_9.toNat * 5) + 3) = some (.int .i64 x16_3_14) ∧
        ∃ (x16_4_15 : Int), cellAt h7 b15_10 (o15_10 + (x13_9.toNat * 5) + 4) = some (.int .i64 x16_4_15) ∧
        ∀ h16 : Heap, h16 = newRowH h7 ty_impl_HouseStep [.int .i64 0, .int .i64 0, .string ByteArray.empty, .int .i64 0, .int .i64 0] →
        ∃ (e17 : TypeId) (c17 : List Value), Row h16 h7.size e17 c17 ∧ 0 + 5 ≤ c17.length ∧
        ∀ h18 : Heap, h18 = putRow h16 h7.size e17 (splice c17 0 [.int .i64 x16_0_11, .int .i64 x16_1_12, .string s16_2_13, .int .i64 x16_3_14, .int .i64 x16_4_15]) →
        ∃ (x18_19 : Int), cellAt h18 h7.size 0 = some (.int .i64 x18_19) ∧
        ((((x18_19 : Int) == 1) = true →
          ∃ (s22_0_20 : ByteArray), cellAt h18 h7.size 2 = some (.string s22_0_20) ∧
          ∃ (x22_1_21 : Int), cellAt h18 h7.size 3 = some (.int .i64 x22_1_21) ∧
          ∃ (x22_2_22 : Int), cellAt h18 h7.size 4 = some (.int .i64 x22_2_22) ∧
          CallsH PP fn_spec_l13Say [.agg ⟨[.string s22_0_20, .int .i64 x22_1_21, .int .i64 x22_2_22]⟩] h18 fun (v23 : Value) (h23 : Heap) =>
          ∃ (t23_24 : Bool), v23 = .bool t23_24 ∧
          ((t23_24 = true →
            ∃ (s27_0_25 : ByteArray), cellAt h23 h7.size 2 = some (.string s27_0_25) ∧
            ∃ (x27_1_26 : Int), cellAt h23 h7.size 3 = some (.int .i64 x27_1_26) ∧
            ∃ (x27_2_27 : Int), cellAt h23 h7.size 4 = some (.int .i64 x27_2_27) ∧
            ∀ h28 : Heap, h28 = newRowH h23 ty_impl_Say [.string s27_0_25, .int .i64 x27_1_26, .int .i64 x27_2_27] →
            appendH h28 ty_impl_Say 3 [.string ByteArray.empty, .int .i64 0, .int .i64 0] a4_8 n4_8 c4_8 (some ⟨h23.size, 0, none⟩) 1 fun (a29_29 : Option Addr) (n29_29 c29_29 : Nat) (h29 : Heap) =>
            I7 [.slice a29_29 n29_29 c29_29, .int .i64 (IntKind.i64.wrap (x13_9 + 1))] h29 ∧ μ7 [.slice a29_29 n29_29 c29_29, .int .i64 (IntKind.i64.wrap (x13_9 + 1))] h29 < μ7 [.slice a4_8 n4_8 c4_8, .int .i64 x13_9] h7) ∧
          (t23_24 = false →
            I7 [.slice a4_8 n4_8 c4_8, .int .i64 (IntKind.i64.wrap (x13_9 + 1))] h23 ∧ μ7 [.slice a4_8 n4_8 c4_8, .int .i64 (IntKind.i64.wrap (x13_9 + 1))] h23 < μ7 [.slice a4_8 n4_8 c4_8, .int .i64 x13_9] h7))) ∧
        (((x18_19 : Int) == 1) = false →
          I7 [.slice a4_8 n4_8 c4_8, .int .i64 (IntKind.i64.wrap (x13_9 + 1))] h18 ∧ μ7 [.slice a4_8 n4_8 c4_8, .int .i64 (IntKind.i64.wrap (x13_9 + 1))] h18 < μ7 [.slice a4_8 n4_8 c4_8, .int .i64 x13_9] h7))) ∧
      ((decide ((x13_9 : Int) < ((np0_1 : Nat) : Int))) = false →
        CallsH PP fn_spec_l17Fold [.slice a4_8 n4_8 c4_8] h7 fun (v30 : Value) (h30 : Heap) =>
        ∃ (a32_0_31 : Option Addr) (n32_0_31 c32_0_31 : Nat) (x32_1_32 : Int), v30 = .agg ⟨[.slice a32_0_31 n32_0_31 c32_0_31, .int .i64 x32_1_32]⟩ ∧
        CallsH PP fn_spec_l13Own [.agg ⟨[.slice a32_0_31 n32_0_31 c32_0_31, .int .i64 x32_1_32]⟩] h30 fun (v33 : Value) (h33 : Heap) =>
        ∃ (a33_0_34 : Option Addr) (n33_0_34 c33_0_34 : Nat) (x33_1_35 : Int), v33 = .agg ⟨[.slice a33_0_34 n33_0_34 c33_0_34, .int .i64 x33_1_35]⟩ ∧
        ∃ (e36 : TypeId) (c36 : List Value), Row h33 h.size e36 c36 ∧ 0 + 2 ≤ c36.length ∧
        ∀ h37 : Heap, h37 = putRow h33 h.size e36 (splice c36 0 [.slice a33_0_34 n33_0_34 c33_0_34, .int .i64 x33_1_35]) →
        ∃ (ar0_0_38 : Option Addr) (nr0_0_38 cr0_0_38 : Nat), cellAt h37 h.size 0 = some (.slice ar0_0_38 nr0_0_38 cr0_0_38) ∧
        ∃ (xr0_1_39 : Int), cellAt h37 h.size 1 = some (.int .i64 xr0_1_39) ∧
        R (.tuple ⟨[.agg ⟨[.slice ar0_0_38 nr0_0_38 cr0_0_38, .int .i64 xr0_1_39]⟩, .bool true]⟩) h37))))
def plan_spec_PlayPlain : Plan := .seq none (.leaf) (.seq none (.seq none (.leaf) (.cond (.seq none (.leaf) (.leaf)) (.leaf))) (.seq none (.leaf) (.seq none (.seq none (.leaf) (.block (.loop [(4, .l (.slice)), (13, .l (.int .i64))] (.seq none (.leaf) (.seq none (.cond (.leaf) (.leaf)) (.seq none (.block (.seq none (.leaf) (.seq none (.leaf) (.cond (.leaf) (.leaf))))) (.leaf))))))) (.seq none (.leaf) (.leaf)))))
theorem tie_spec_PlayPlain : (fun (ap0_1 : Option Addr) (np0_1 cp0_1 : Nat) (h : Heap) (R : Value → Heap → Prop) => denF X0 Try.f33 (bodyOf Try.f33) plan_spec_PlayPlain [.l (.sl ap0_1 np0_1 cp0_1)] h R) = M_spec_PlayPlain := by kernel_rfl
theorem calls_spec_PlayPlain (ap0_1 : Option Addr) (np0_1 cp0_1 : Nat) {h : Heap} {R : Value → Heap → Prop} (hm : M_spec_PlayPlain ap0_1 np0_1 cp0_1 h R) : CallsH PP fn_spec_PlayPlain [.slice ap0_1 np0_1 cp0_1] h R :=
  callsH_of X0ok Try.func33 (by kernel_rfl) plan_spec_PlayPlain [.l (.sl ap0_1 np0_1 cp0_1)] (Eq.mpr (congrFun (congrFun (congrFun (congrFun (congrFun tie_spec_PlayPlain ap0_1) np0_1) cp0_1) h) R) hm)
/- 103: spec.l13Say -/
def M_spec_l13Say (sp0_0_1 : ByteArray) (xp0_1_2 : Int) (xp0_2_3 : Int) (h : Heap) (R : Value → Heap → Prop) : Prop :=
  ∀ h4 : Heap, h4 = newRowH h ty_impl_Say [.string sp0_0_1, .int .i64 xp0_1_2, .int .i64 xp0_2_3] →
  ∃ (s4_5 : ByteArray), cellAt h4 h.size 0 = some (.string s4_5) ∧
  CallsH PP fn_spec_l3Name [.string s4_5, .bool false] h4 fun (v6 : Value) (h6 : Heap) =>
  ∃ (t5_7 : Bool), v6 = .bool t5_7 ∧
  ((t5_7 = true →
    ∃ (x8_8 : Int), cellAt h6 h.size 1 = some (.int .i64 x8_8) ∧
    CallsH PP fn_spec_l1In [.int .i64 x8_8, .int .i64 0, .int .i64 1000000000] h6 fun (v9 : Value) (h9 : Heap) =>
    ∃ (t9_10 : Bool), v9 = .bool t9_10 ∧
    ((t9_10 = true →
      ∃ (x13_11 : Int), cellAt h9 h.size 2 = some (.int .i64 x13_11) ∧
      CallsH PP fn_spec_l1In [.int .i64 x13_11, .int .i64 (-1000000000), .int .i64 1000000000] h9 fun (v12 : Value) (h12 : Heap) =>
      ∃ (t14_13 : Bool), v12 = .bool t14_13 ∧
      R (.bool t14_13) h12) ∧
    (t9_10 = false →
      R (.bool false) h9))) ∧
  (t5_7 = false →
    R (.bool false) h6))
def plan_spec_l13Say : Plan := .seq none (.leaf) (.seq none (.leaf) (.leaf))
theorem tie_spec_l13Say : (fun (sp0_0_1 : ByteArray) (xp0_1_2 : Int) (xp0_2_3 : Int) (h : Heap) (R : Value → Heap → Prop) => denF X0 Try.f103 (bodyOf Try.f103) plan_spec_l13Say [.agg [.str sp0_0_1, .int .i64 xp0_1_2, .int .i64 xp0_2_3]] h R) = M_spec_l13Say := by kernel_rfl
theorem calls_spec_l13Say (sp0_0_1 : ByteArray) (xp0_1_2 : Int) (xp0_2_3 : Int) {h : Heap} {R : Value → Heap → Prop} (hm : M_spec_l13Say sp0_0_1 xp0_1_2 xp0_2_3 h R) : CallsH PP fn_spec_l13Say [.agg ⟨[.string sp0_0_1, .int .i64 xp0_1_2, .int .i64 xp0_2_3]⟩] h R :=
  callsH_of X0ok Try.func103 (by kernel_rfl) plan_spec_l13Say [.agg [.str sp0_0_1, .int .i64 xp0_1_2, .int .i64 xp0_2_3]] (Eq.mpr (congrFun (congrFun (congrFun (congrFun (congrFun tie_spec_l13Say sp0_0_1) xp0_1_2) xp0_2_3) h) R) hm)
/- 169: spec.l3Name -/
def M_spec_l3Name (sp0_1 : ByteArray) (tp1_2 : Bool) (h : Heap) (R : Value → Heap → Prop) : Prop :=
  ∃ (I3 : List Value → Heap → Prop) (μ3 : List Value → Heap → Nat), I3 [.int .i64 0] h ∧
  ∀ h3 : Heap, ∀ (x5_4 : Int), I3 [.int .i64 x5_4] h3 →
    (((decide ((x5_4 : Int) < ((sp0_1.size : Nat) : Int))) = true →
      (0 : Int) ≤ x5_4 ∧ (x5_4 : Int) < ((sp0_1.size : Nat) : Int) ∧
      (((decide (((byteAt sp0_1 x5_4.toNat) : Int) ≥ 97)) = true →
        (0 : Int) ≤ x5_4 ∧ (x5_4 : Int) < ((sp0_1.size : Nat) : Int) ∧
        (((decide (((byteAt sp0_1 x5_4.toNat) : Int) ≤ 122)) = false →
          ((tp1_2 = true →
            (0 : Int) ≤ x5_4 ∧ (x5_4 : Int) < ((sp0_1.size : Nat) : Int) ∧
            (((decide (((byteAt sp0_1 x5_4.toNat) : Int) ≥ 48)) = true →
              (0 : Int) ≤ x5_4 ∧ (x5_4 : Int) < ((sp0_1.size : Nat) : Int) ∧
              (((!(decide (((byteAt sp0_1 x5_4.toNat) : Int) ≤ 57))) = true →
                R (.bool false) h3) ∧
              ((!(decide (((byteAt sp0_1 x5_4.toNat) : Int) ≤ 57))) = false →
                I3 [.int .i64 (IntKind.i64.wrap (x5_4 + 1))] h3 ∧ μ3 [.int .i64 (IntKind.i64.wrap (x5_4 + 1))] h3 < μ3 [.int .i64 x5_4] h3))) ∧
            ((decide (((byteAt sp0_1 x5_4.toNat) : Int) ≥ 48)) = false →
              R (.bool false) h3))) ∧
          (tp1_2 = false →
            R (.bool false) h3))) ∧
        ((decide (((byteAt sp0_1 x5_4.toNat) : Int) ≤ 122)) = true →
          I3 [.int .i64 (IntKind.i64.wrap (x5_4 + 1))] h3 ∧ μ3 [.int .i64 (IntKind.i64.wrap (x5_4 + 1))] h3 < μ3 [.int .i64 x5_4] h3))) ∧
      ((decide (((byteAt sp0_1 x5_4.toNat) : Int) ≥ 97)) = false →
        ((tp1_2 = true →
          (0 : Int) ≤ x5_4 ∧ (x5_4 : Int) < ((sp0_1.size : Nat) : Int) ∧
          (((decide (((byteAt sp0_1 x5_4.toNat) : Int) ≥ 48)) = true →
            (0 : Int) ≤ x5_4 ∧ (x5_4 : Int) < ((sp0_1.size : Nat) : Int) ∧
            (((!(decide (((byteAt sp0_1 x5_4.toNat) : Int) ≤ 57))) = true →
              R (.bool false) h3) ∧
            ((!(decide (((byteAt sp0_1 x5_4.toNat) : Int) ≤ 57))) = false →
              I3 [.int .i64 (IntKind.i64.wrap (x5_4 + 1))] h3 ∧ μ3 [.int .i64 (IntKind.i64.wrap (x5_4 + 1))] h3 < μ3 [.int .i64 x5_4] h3))) ∧
          ((decide (((byteAt sp0_1 x5_4.toNat) : Int) ≥ 48)) = false →
            R (.bool false) h3))) ∧
        (tp1_2 = false →
          R (.bool false) h3))))) ∧
    ((decide ((x5_4 : Int) < ((sp0_1.size : Nat) : Int))) = false →
      CallsH PP fn_spec_l1In [.int .i64 ((sp0_1.size : Nat) : Int), .int .i64 1, .int .i64 8] h3 fun (v5 : Value) (h5 : Heap) =>
      ∃ (t40_6 : Bool), v5 = .bool t40_6 ∧
      R (.bool t40_6) h5))
def plan_spec_l3Name : Plan := .seq none (.leaf) (.seq none (.seq none (.leaf) (.block (.loop [(5, .l (.int .i64))] (.seq none (.seq none (.leaf) (.cond (.leaf) (.leaf))) (.seq none (.block (.seq none (.leaf) (.cond (.seq none (.leaf) (.leaf)) (.leaf)))) (.leaf)))))) (.seq none (.leaf) (.leaf)))
theorem tie_spec_l3Name : (fun (sp0_1 : ByteArray) (tp1_2 : Bool) (h : Heap) (R : Value → Heap → Prop) => denF X0 Try.f169 (bodyOf Try.f169) plan_spec_l3Name [.l (.str sp0_1), .l (.bool tp1_2)] h R) = M_spec_l3Name := by kernel_rfl
theorem calls_spec_l3Name (sp0_1 : ByteArray) (tp1_2 : Bool) {h : Heap} {R : Value → Heap → Prop} (hm : M_spec_l3Name sp0_1 tp1_2 h R) : CallsH PP fn_spec_l3Name [.string sp0_1, .bool tp1_2] h R :=
  callsH_of X0ok Try.func169 (by kernel_rfl) plan_spec_l3Name [.l (.str sp0_1), .l (.bool tp1_2)] (Eq.mpr (congrFun (congrFun (congrFun (congrFun tie_spec_l3Name sp0_1) tp1_2) h) R) hm)
/- 104: spec.l13Own -/
def M_spec_l13Own (ap0_0_1 : Option Addr) (np0_0_1 cp0_0_1 : Nat) (xp0_1_2 : Int) (h : Heap) (R : Value → Heap → Prop) : Prop :=
  ∀ h3 : Heap, h3 = newRowH h ty_impl_Head [.slice ap0_0_1 np0_0_1 cp0_0_1, .int .i64 xp0_1_2] →
  ∀ h4 : Heap, h4 = newRowH h3 ty_impl_Head [.slice none 0 0, .int .i64 0] →
  ∃ (x7_5 : Int), cellAt h4 h.size 1 = some (.int .i64 x7_5) ∧
  ∀ h6 : Heap, h6 = newRowH h4 ty_impl_Head [.slice none 0 0, .int .i64 0] →
  ∃ (e7 : TypeId) (c7 : List Value), Row h6 h4.size e7 c7 ∧ 0 + 2 ≤ c7.length ∧
  ∀ h8 : Heap, h8 = putRow h6 h4.size e7 (splice c7 0 [.slice none 0 0, .int .i64 x7_5]) →
  ∃ (a10_9 : Option Addr) (n10_9 c10_9 : Nat), cellAt h8 h.size 0 = some (.slice a10_9 n10_9 c10_9) ∧
  ∃ (I10 : List Value → Heap → Prop) (μ10 : List Value → Heap → Nat), I10 [.int .i64 0] h8 ∧
  ∀ h10 : Heap, ∀ (x12_11 : Int), I10 [.int .i64 x12_11] h10 →
    (((decide ((x12_11 : Int) < ((n10_9 : Nat) : Int))) = true →
      ∃ (b14_12 o14_12 : Nat), a10_9 = some ⟨b14_12, o14_12, none⟩ ∧ (0 : Int) ≤ x12_11 ∧ (x12_11 : Int) < ((n10_9 : Nat) : Int) ∧
      ∃ (s15_0_13 : ByteArray), cellAt h10 b14_12 (o14_12 + (x12_11.toNat * 2)) = some (.string s15_0_13) ∧
      ∃ (a15_1_14 : Option Addr) (n15_1_14 c15_1_14 : Nat), cellAt h10 b14_12 (o14_12 + (x12_11.toNat * 2) + 1) = some (.slice a15_1_14 n15_1_14 c15_1_14) ∧
      ∀ h15 : Heap, h15 = newRowH h10 ty_impl_Row [.string ByteArray.empty, .slice none 0 0] →
      ∃ (e16 : TypeId) (c16 : List Value), Row h15 h10.size e16 c16 ∧ 0 + 2 ≤ c16.length ∧
      ∀ h17 : Heap, h17 = putRow h15 h10.size e16 (splice c16 0 [.string s15_0_13, .slice a15_1_14 n15_1_14 c15_1_14]) →
      ∃ (a17_18 : Option Addr) (n17_18 c17_18 : Nat), cellAt h17 h4.size 0 = some (.slice a17_18 n17_18 c17_18) ∧
      ∃ (s19_19 : ByteArray), cellAt h17 h10.size 0 = some (.string s19_19) ∧
      ∃ (a22_20 : Option Addr) (n22_20 c22_20 : Nat), cellAt h17 h10.size 1 = some (.slice a22_20 n22_20 c22_20) ∧
      ∀ h21 : Heap, h21 = newRowH h17 ty_impl_Sample [] →
      cellAt h21 h10.size 1 = some (.slice a22_20 n22_20 c22_20) ∧
      cellAt h21 h10.size 0 = some (.string s19_19) ∧
      cellAt h21 h4.size 0 = some (.slice a17_18 n17_18 c17_18) ∧
      appendH h21 ty_impl_Sample 2 [.int .i64 0, .int .i64 0] (some ⟨h17.size, 0, none⟩) 0 0 a22_20 n22_20 fun (a23_22 : Option Addr) (n23_22 c23_22 : Nat) (h22 : Heap) =>
      cellAt h22 h10.size 0 = some (.string s19_19) ∧
      cellAt h22 h4.size 0 = some (.slice a17_18 n17_18 c17_18) ∧
      ∀ h23 : Heap, h23 = newRowH h22 ty_impl_Row [.string s19_19, .slice a23_22 n23_22 c23_22] →
      cellAt h23 h4.size 0 = some (.slice a17_18 n17_18 c17_18) ∧
      appendH h23 ty_impl_Row 2 [.string ByteArray.empty, .slice none 0 0] a17_18 n17_18 c17_18 (some ⟨h22.size, 0, none⟩) 1 fun (a26_24 : Option Addr) (n26_24 c26_24 : Nat) (h24 : Heap) =>
      ∃ (e25 : TypeId) (c25 : List Value), Row h24 h4.size e25 c25 ∧ 0 < c25.length ∧
      ∀ h26 : Heap, h26 = putRow h24 h4.size e25 (c25.set 0 (.slice a26_24 n26_24 c26_24)) →
      I10 [.int .i64 (IntKind.i64.wrap (x12_11 + 1))] h26 ∧ μ10 [.int .i64 (IntKind.i64.wrap (x12_11 + 1))] h26 < μ10 [.int .i64 x12_11] h10) ∧
    ((decide ((x12_11 : Int) < ((n10_9 : Nat) : Int))) = false →
      ∃ (a29_0_27 : Option Addr) (n29_0_27 c29_0_27 : Nat), cellAt h10 h4.size 0 = some (.slice a29_0_27 n29_0_27 c29_0_27) ∧
      ∃ (x29_1_28 : Int), cellAt h10 h4.size 1 = some (.int .i64 x29_1_28) ∧
      ∃ (e29 : TypeId) (c29 : List Value), Row h10 h3.size e29 c29 ∧ 0 + 2 ≤ c29.length ∧
      ∀ h30 : Heap, h30 = putRow h10 h3.size e29 (splice c29 0 [.slice a29_0_27 n29_0_27 c29_0_27, .int .i64 x29_1_28]) →
      ∃ (ar0_0_31 : Option Addr) (nr0_0_31 cr0_0_31 : Nat), cellAt h30 h3.size 0 = some (.slice ar0_0_31 nr0_0_31 cr0_0_31) ∧
      ∃ (xr0_1_32 : Int), cellAt h30 h3.size 1 = some (.int .i64 xr0_1_32) ∧
      R (.agg ⟨[.slice ar0_0_31 nr0_0_31 cr0_0_31, .int .i64 xr0_1_32]⟩) h30))
def plan_spec_l13Own : Plan := .seq none (.leaf) (.seq none (.leaf) (.seq none (.seq none (.leaf) (.block (.loop [(12, .l (.int .i64))] (.seq none (.leaf) (.seq none (.cond (.leaf) (.leaf)) (.seq none (.block (.seq none (.leaf) (.draw (.op 0 (.op 1 (.op 2 (.op 3 (.op 5 (.op 6 (.op 4 (.op 7 (.op 8 (.op 9 (.op 10 (.op 11 (.op 12 .done)))))))))))))))) (.leaf))))))) (.seq none (.leaf) (.leaf))))
theorem tie_spec_l13Own : (fun (ap0_0_1 : Option Addr) (np0_0_1 cp0_0_1 : Nat) (xp0_1_2 : Int) (h : Heap) (R : Value → Heap → Prop) => denF X0 Try.f104 (bodyOf Try.f104) plan_spec_l13Own [.agg [.sl ap0_0_1 np0_0_1 cp0_0_1, .int .i64 xp0_1_2]] h R) = M_spec_l13Own := by kernel_rfl
theorem calls_spec_l13Own (ap0_0_1 : Option Addr) (np0_0_1 cp0_0_1 : Nat) (xp0_1_2 : Int) {h : Heap} {R : Value → Heap → Prop} (hm : M_spec_l13Own ap0_0_1 np0_0_1 cp0_0_1 xp0_1_2 h R) : CallsH PP fn_spec_l13Own [.agg ⟨[.slice ap0_0_1 np0_0_1 cp0_0_1, .int .i64 xp0_1_2]⟩] h R :=
  callsH_of X0ok Try.func104 (by kernel_rfl) plan_spec_l13Own [.agg [.sl ap0_0_1 np0_0_1 cp0_0_1, .int .i64 xp0_1_2]] (Eq.mpr (congrFun (congrFun (congrFun (congrFun (congrFun (congrFun tie_spec_l13Own ap0_0_1) np0_0_1) cp0_0_1) xp0_1_2) h) R) hm)
/- 105: spec.l17Fold -/
def M_spec_l17Fold (ap0_1 : Option Addr) (np0_1 cp0_1 : Nat) (h : Heap) (R : Value → Heap → Prop) : Prop :=
  ∀ h2 : Heap, h2 = newRowH h ty_impl_Head [.slice none 0 0, .int .i64 0] →
  ∀ h3 : Heap, h3 = newRowH h2 ty_impl_Head [.slice none 0 0, .int .i64 0] →
  ∃ (I4 : List Value → Heap → Prop) (μ4 : List Value → Heap → Nat), I4 [.int .i64 0] h3 ∧
  ∀ h4 : Heap, ∀ (x10_5 : Int), I4 [.int .i64 x10_5] h4 →
    (((decide ((x10_5 : Int) < ((np0_1 : Nat) : Int))) = true →
      ∃ (b12_6 o12_6 : Nat), ap0_1 = some ⟨b12_6, o12_6, none⟩ ∧ (0 : Int) ≤ x10_5 ∧ (x10_5 : Int) < ((np0_1 : Nat) : Int) ∧
      ∃ (s13_0_7 : ByteArray), cellAt h4 b12_6 (o12_6 + (x10_5.toNat * 3)) = some (.string s13_0_7) ∧
      ∃ (x13_1_8 : Int), cellAt h4 b12_6 (o12_6 + (x10_5.toNat * 3) + 1) = some (.int .i64 x13_1_8) ∧
      ∃ (x13_2_9 : Int), cellAt h4 b12_6 (o12_6 + (x10_5.toNat * 3) + 2) = some (.int .i64 x13_2_9) ∧
      ∀ h10 : Heap, h10 = newRowH h4 ty_impl_Say [.string ByteArray.empty, .int .i64 0, .int .i64 0] →
      ∃ (e11 : TypeId) (c11 : List Value), Row h10 h4.size e11 c11 ∧ 0 + 3 ≤ c11.length ∧
      ∀ h12 : Heap, h12 = putRow h10 h4.size e11 (splice c11 0 [.string s13_0_7, .int .i64 x13_1_8, .int .i64 x13_2_9]) →
      ∃ (a15_0_13 : Option Addr) (n15_0_13 c15_0_13 : Nat), cellAt h12 h2.size 0 = some (.slice a15_0_13 n15_0_13 c15_0_13) ∧
      ∃ (x15_1_14 : Int), cellAt h12 h2.size 1 = some (.int .i64 x15_1_14) ∧
      ∃ (s16_0_15 : ByteArray), cellAt h12 h4.size 0 = some (.string s16_0_15) ∧
      ∃ (x16_1_16 : Int), cellAt h12 h4.size 1 = some (.int .i64 x16_1_16) ∧
      ∃ (x16_2_17 : Int), cellAt h12 h4.size 2 = some (.int .i64 x16_2_17) ∧
      CallsH PP fn_spec_l13Take [.agg ⟨[.slice a15_0_13 n15_0_13 c15_0_13, .int .i64 x15_1_14]⟩, .agg ⟨[.string s16_0_15, .int .i64 x16_1_16, .int .i64 x16_2_17]⟩] h12 fun (v18 : Value) (h18 : Heap) =>
      ∃ (a17_0_0_19 : Option Addr) (n17_0_0_19 c17_0_0_19 : Nat) (x17_0_1_20 : Int), ∃ (x17_1_21 : Int), v18 = .tuple ⟨[.agg ⟨[.slice a17_0_0_19 n17_0_0_19 c17_0_0_19, .int .i64 x17_0_1_20]⟩, .int .i64 x17_1_21]⟩ ∧
      ∀ h22 : Heap, h22 = newRowH h18 ty_impl_Head [.slice none 0 0, .int .i64 0] →
      ∃ (e23 : TypeId) (c23 : List Value), Row h22 h18.size e23 c23 ∧ 0 + 2 ≤ c23.length ∧
      ∀ h24 : Heap, h24 = putRow h22 h18.size e23 (splice c23 0 [.slice a17_0_0_19 n17_0_0_19 c17_0_0_19, .int .i64 x17_0_1_20]) →
      ∃ (a20_0_25 : Option Addr) (n20_0_25 c20_0_25 : Nat), cellAt h24 h18.size 0 = some (.slice a20_0_25 n20_0_25 c20_0_25) ∧
      ∃ (x20_1_26 : Int), cellAt h24 h18.size 1 = some (.int .i64 x20_1_26) ∧
      ∃ (e27 : TypeId) (c27 : List Value), Row h24 h2.size e27 c27 ∧ 0 + 2 ≤ c27.length ∧
      ∀ h28 : Heap, h28 = putRow h24 h2.size e27 (splice c27 0 [.slice a20_0_25 n20_0_25 c20_0_25, .int .i64 x20_1_26]) →
      I4 [.int .i64 (IntKind.i64.wrap (x10_5 + 1))] h28 ∧ μ4 [.int .i64 (IntKind.i64.wrap (x10_5 + 1))] h28 < μ4 [.int .i64 x10_5] h4) ∧
    ((decide ((x10_5 : Int) < ((np0_1 : Nat) : Int))) = false →
      ∃ (a22_0_29 : Option Addr) (n22_0_29 c22_0_29 : Nat), cellAt h4 h2.size 0 = some (.slice a22_0_29 n22_0_29 c22_0_29) ∧
      ∃ (x22_1_30 : Int), cellAt h4 h2.size 1 = some (.int .i64 x22_1_30) ∧
      ∃ (e31 : TypeId) (c31 : List Value), Row h4 h.size e31 c31 ∧ 0 + 2 ≤ c31.length ∧
      ∀ h32 : Heap, h32 = putRow h4 h.size e31 (splice c31 0 [.slice a22_0_29 n22_0_29 c22_0_29, .int .i64 x22_1_30]) →
      ∃ (ar0_0_33 : Option Addr) (nr0_0_33 cr0_0_33 : Nat), cellAt h32 h.size 0 = some (.slice ar0_0_33 nr0_0_33 cr0_0_33) ∧
      ∃ (xr0_1_34 : Int), cellAt h32 h.size 1 = some (.int .i64 xr0_1_34) ∧
      R (.agg ⟨[.slice ar0_0_33 nr0_0_33 cr0_0_33, .int .i64 xr0_1_34]⟩) h32))
def plan_spec_l17Fold : Plan := .seq none (.leaf) (.seq none (.leaf) (.seq none (.seq none (.leaf) (.block (.loop [(10, .l (.int .i64))] (.seq none (.leaf) (.seq none (.cond (.leaf) (.leaf)) (.seq none (.block (.seq none (.leaf) (.seq none (.leaf) (.leaf)))) (.leaf))))))) (.seq none (.leaf) (.leaf))))
theorem tie_spec_l17Fold : (fun (ap0_1 : Option Addr) (np0_1 cp0_1 : Nat) (h : Heap) (R : Value → Heap → Prop) => denF X0 Try.f105 (bodyOf Try.f105) plan_spec_l17Fold [.l (.sl ap0_1 np0_1 cp0_1)] h R) = M_spec_l17Fold := by kernel_rfl
theorem calls_spec_l17Fold (ap0_1 : Option Addr) (np0_1 cp0_1 : Nat) {h : Heap} {R : Value → Heap → Prop} (hm : M_spec_l17Fold ap0_1 np0_1 cp0_1 h R) : CallsH PP fn_spec_l17Fold [.slice ap0_1 np0_1 cp0_1] h R :=
  callsH_of X0ok Try.func105 (by kernel_rfl) plan_spec_l17Fold [.l (.sl ap0_1 np0_1 cp0_1)] (Eq.mpr (congrFun (congrFun (congrFun (congrFun (congrFun tie_spec_l17Fold ap0_1) np0_1) cp0_1) h) R) hm)
/- 170: spec.l13Take -/
def M_spec_l13Take (ap0_0_1 : Option Addr) (np0_0_1 cp0_0_1 : Nat) (xp0_1_2 : Int) (sp1_0_3 : ByteArray) (xp1_1_4 : Int) (xp1_2_5 : Int) (h : Heap) (R : Value → Heap → Prop) : Prop :=
  ∀ h6 : Heap, h6 = newRowH h ty_impl_Head [.slice ap0_0_1 np0_0_1 cp0_0_1, .int .i64 xp0_1_2] →
  ∀ h7 : Heap, h7 = newRowH h6 ty_impl_Say [.string sp1_0_3, .int .i64 xp1_1_4, .int .i64 xp1_2_5] →
  ∀ h8 : Heap, h8 = newRowH h7 ty_impl_Head [.slice none 0 0, .int .i64 0] →
  ∃ (x12_9 : Int), cellAt h8 h.size 1 = some (.int .i64 x12_9) ∧
  ∃ (e10 : TypeId) (c10 : List Value), Row h8 h.size e10 c10 ∧ 1 < c10.length ∧
  ∀ h11 : Heap, h11 = putRow h8 h.size e10 (c10.set 1 (.int .i64 (IntKind.i64.wrap (x12_9 + 1)))) →
  ∀ (K12 : List Value → Heap → Prop), (∀ h12 : Heap, ∀ (x6_13 : Int), (
    ∃ (x34_14 : Int), cellAt h12 h6.size 1 = some (.int .i64 x34_14) ∧
    ∃ (x36_15 : Int), cellAt h12 h6.size 2 = some (.int .i64 x36_15) ∧
    ∀ h16 : Heap, h16 = newRowH h12 ty_impl_Sample [.int .i64 0, .int .i64 0] →
    ∃ (e17 : TypeId) (c17 : List Value), Row h16 h12.size e17 c17 ∧ 0 + 2 ≤ c17.length ∧
    ∀ h18 : Heap, h18 = putRow h16 h12.size e17 (splice c17 0 [.int .i64 x34_14, .int .i64 x36_15]) →
    ∀ (K19 : List Value → Heap → Prop), (∀ h19 : Heap, ∀ (t53_20 : Bool), (
      ((t53_20 = true →
        ∃ (a55_21 : Option Addr) (n55_21 c55_21 : Nat), cellAt h19 h.size 0 = some (.slice a55_21 n55_21 c55_21) ∧
        ∃ (b57_22 o57_22 : Nat), a55_21 = some ⟨b57_22, o57_22, none⟩ ∧ (0 : Int) ≤ x6_13 ∧ (x6_13 : Int) < ((n55_21 : Nat) : Int) ∧
        ∃ (a59_23 : Option Addr) (n59_23 c59_23 : Nat), cellAt h19 b57_22 (o57_22 + (x6_13.toNat * 2) + 1) = some (.slice a59_23 n59_23 c59_23) ∧
        ∃ (b64_24 o64_24 : Nat), a59_23 = some ⟨b64_24, o64_24, none⟩ ∧ (0 : Int) ≤ IntKind.i64.wrap (((n59_23 : Nat) : Int) - 1) ∧ (IntKind.i64.wrap (((n59_23 : Nat) : Int) - 1) : Int) < ((n59_23 : Nat) : Int) ∧
        ∃ (x66_25 : Int), cellAt h19 b64_24 (o64_24 + (((IntKind.i64.wrap (((n59_23 : Nat) : Int) - 1)).toNat) * 2)) = some (.int .i64 x66_25) ∧
        ∃ (x70_26 : Int), cellAt h19 h6.size 1 = some (.int .i64 x70_26) ∧
        ((((x66_25 : Int) == x70_26) = true →
          ∃ (a72_0_27 : Option Addr) (n72_0_27 c72_0_27 : Nat), cellAt h19 h.size 0 = some (.slice a72_0_27 n72_0_27 c72_0_27) ∧
          ∃ (x72_1_28 : Int), cellAt h19 h.size 1 = some (.int .i64 x72_1_28) ∧
          ∃ (e29 : TypeId) (c29 : List Value), Row h19 h7.size e29 c29 ∧ 0 + 2 ≤ c29.length ∧
          ∀ h30 : Heap, h30 = putRow h19 h7.size e29 (splice c29 0 [.slice a72_0_27 n72_0_27 c72_0_27, .int .i64 x72_1_28]) →
          ∃ (ar0_0_31 : Option Addr) (nr0_0_31 cr0_0_31 : Nat), cellAt h30 h7.size 0 = some (.slice ar0_0_31 nr0_0_31 cr0_0_31) ∧
          ∃ (xr0_1_32 : Int), cellAt h30 h7.size 1 = some (.int .i64 xr0_1_32) ∧
          R (.tuple ⟨[.agg ⟨[.slice ar0_0_31 nr0_0_31 cr0_0_31, .int .i64 xr0_1_32]⟩, .int .i64 2]⟩) h30) ∧
        (((x66_25 : Int) == x70_26) = false →
          ∃ (x76_33 : Int), cellAt h19 h6.size 1 = some (.int .i64 x76_33) ∧
          (((decide ((x66_25 : Int) > x76_33)) = true →
            ∃ (a78_0_34 : Option Addr) (n78_0_34 c78_0_34 : Nat), cellAt h19 h.size 0 = some (.slice a78_0_34 n78_0_34 c78_0_34) ∧
            ∃ (x78_1_35 : Int), cellAt h19 h.size 1 = some (.int .i64 x78_1_35) ∧
            ∃ (e36 : TypeId) (c36 : List Value), Row h19 h7.size e36 c36 ∧ 0 + 2 ≤ c36.length ∧
            ∀ h37 : Heap, h37 = putRow h19 h7.size e36 (splice c36 0 [.slice a78_0_34 n78_0_34 c78_0_34, .int .i64 x78_1_35]) →
            ∃ (ar0_0_38 : Option Addr) (nr0_0_38 cr0_0_38 : Nat), cellAt h37 h7.size 0 = some (.slice ar0_0_38 nr0_0_38 cr0_0_38) ∧
            ∃ (xr0_1_39 : Int), cellAt h37 h7.size 1 = some (.int .i64 xr0_1_39) ∧
            R (.tuple ⟨[.agg ⟨[.slice ar0_0_38 nr0_0_38 cr0_0_38, .int .i64 xr0_1_39]⟩, .int .i64 3]⟩) h37) ∧
          ((decide ((x66_25 : Int) > x76_33)) = false →
            ((((((n59_23 : Nat) : Int) : Int) == 40) = true →
              ∃ (a83_0_40 : Option Addr) (n83_0_40 c83_0_40 : Nat), cellAt h19 h.size 0 = some (.slice a83_0_40 n83_0_40 c83_0_40) ∧
              ∃ (x83_1_41 : Int), cellAt h19 h.size 1 = some (.int .i64 x83_1_41) ∧
              ∃ (e42 : TypeId) (c42 : List Value), Row h19 h7.size e42 c42 ∧ 0 + 2 ≤ c42.length ∧
              ∀ h43 : Heap, h43 = putRow h19 h7.size e42 (splice c42 0 [.slice a83_0_40 n83_0_40 c83_0_40, .int .i64 x83_1_41]) →
              ∃ (ar0_0_44 : Option Addr) (nr0_0_44 cr0_0_44 : Nat), cellAt h43 h7.size 0 = some (.slice ar0_0_44 nr0_0_44 cr0_0_44) ∧
              ∃ (xr0_1_45 : Int), cellAt h43 h7.size 1 = some (.int .i64 xr0_1_45) ∧
              R (.tuple ⟨[.agg ⟨[.slice ar0_0_44 nr0_0_44 cr0_0_44, .int .i64 xr0_1_45]⟩, .int .i64 4]⟩) h43) ∧
            (((((n59_23 : Nat) : Int) : Int) == 40) = false →
              ∃ (a85_46 : Option Addr) (n85_46 c85_46 : Nat), cellAt h19 h.size 0 = some (.slice a85_46 n85_46 c85_46) ∧
              ∃ (x88_0_47 : Int), cellAt h19 h12.size 0 = some (.int .i64 x88_0_47) ∧
              ∃ (x88_1_48 : Int), cellAt h19 h12.size 1 = some (.int .i64 x88_1_48) ∧
              ∀ h49 : Heap, h49 = newRowH h19 ty_impl_Sample [.int .i64 x88_0_47, .int .i64 x88_1_48] →
              cellAt h49 h.size 0 = some (.slice a85_46 n85_46 c85_46) ∧
              appendH h49 ty_impl_Sample 2 [.int .i64 0, .int .i64 0] a59_23 n59_23 c59_23 (some ⟨h19.size, 0, none⟩) 1 fun (a90_50 : Option Addr) (n90_50 c90_50 : Nat) (h50 : Heap) =>
              cellAt h50 h.size 0 = some (.slice a85_46 n85_46 c85_46) ∧
              ∃ (b91_51 o91_51 : Nat), a85_46 = some ⟨b91_51, o91_51, none⟩ ∧ (0 : Int) ≤ x6_13 ∧ (x6_13 : Int) < ((n85_46 : Nat) : Int) ∧
              ∃ (e52 : TypeId) (c52 : List Value), Row h50 b91_51 e52 c52 ∧ o91_51 + (x6_13.toNat * 2) + 1 < c52.length ∧
              ∀ h53 : Heap, h53 = putRow h50 b91_51 e52 (c52.set (o91_51 + (x6_13.toNat * 2) + 1) (.slice a90_50 n90_50 c90_50)) →
              ∃ (a93_0_54 : Option Addr) (n93_0_54 c93_0_54 : Nat), cellAt h53 h.size 0 = some (.slice a93_0_54 n93_0_54 c93_0_54) ∧
              ∃ (x93_1_55 : Int), cellAt h53 h.size 1 = some (.int .i64 x93_1_55) ∧
              ∃ (e56 : TypeId) (c56 : List Value), Row h53 h7.size e56 c56 ∧ 0 + 2 ≤ c56.length ∧
              ∀ h57 : Heap, h57 = putRow h53 h7.size e56 (splice c56 0 [.slice a93_0_54 n93_0_54 c93_0_54, .int .i64 x93_1_55]) →
              ∃ (ar0_0_58 : Option Addr) (nr0_0_58 cr0_0_58 : Nat), cellAt h57 h7.size 0 = some (.slice ar0_0_58 nr0_0_58 cr0_0_58) ∧
              ∃ (xr0_1_59 : Int), cellAt h57 h7.size 1 = some (.int .i64 xr0_1_59) ∧
              R (.tuple ⟨[.agg ⟨[.slice ar0_0_58 nr0_0_58 cr0_0_58, .int .i64 xr0_1_59]⟩, .int .i64 1]⟩) h57))))))) ∧
      (t53_20 = false →
        ∃ (a95_60 : Option Addr) (n95_60 c95_60 : Nat), cellAt h19 h.size 0 = some (.slice a95_60 n95_60 c95_60) ∧
        ((((((n95_60 : Nat) : Int) : Int) == 8) = true →
          ∃ (a98_0_61 : Option Addr) (n98_0_61 c98_0_61 : Nat), cellAt h19 h.size 0 = some (.slice a98_0_61 n98_0_61 c98_0_61) ∧
          ∃ (x98_1_62 : Int), cellAt h19 h.size 1 = some (.int .i64 x98_1_62) ∧
          ∃ (e63 : TypeId) (c63 : List Value), Row h19 h7.size e63 c63 ∧ 0 + 2 ≤ c63.length ∧
          ∀ h64 : Heap, h64 = putRow h19 h7.size e63 (splice c63 0 [.slice a98_0_61 n98_0_61 c98_0_61, .int .i64 x98_1_62]) →
          ∃ (ar0_0_65 : Option Addr) (nr0_0_65 cr0_0_65 : Nat), cellAt h64 h7.size 0 = some (.slice ar0_0_65 nr0_0_65 cr0_0_65) ∧
          ∃ (xr0_1_66 : Int), cellAt h64 h7.size 1 = some (.int .i64 xr0_1_66) ∧
          R (.tuple ⟨[.agg ⟨[.slice ar0_0_65 nr0_0_65 cr0_0_65, .int .i64 xr0_1_66]⟩, .int .i64 4]⟩) h64) ∧
        (((((n95_60 : Nat) : Int) : Int) == 8) = false →
          ∀ h67 : Heap, h67 = newRowH h19 ty_impl_Row [] →
          ∃ (a101_68 : Option Addr) (n101_68 c101_68 : Nat), cellAt h67 h.size 0 = some (.slice a101_68 n101_68 c101_68) ∧
          (0 : Int) ≤ 0 ∧ (0 : Int) ≤ x6_13 ∧ x6_13 ≤ ((c101_68 : Nat) : Int) ∧
          appendH h67 ty_impl_Row 2 [.string ByteArray.empty, .slice none 0 0] (some ⟨h19.size, 0, none⟩) 0 0 a101_68 x6_13.toNat fun (a104_69 : Option Addr) (n104_69 c104_69 : Nat) (h69 : Heap) =>
          ∃ (s107_70 : ByteArray), cellAt h69 h6.size 0 = some (.string s107_70) ∧
          ∃ (x108_0_71 : Int), cellAt h69 h12.size 0 = some (.int .i64 x108_0_71) ∧
          ∃ (x108_1_72 : Int), cellAt h69 h12.size 1 = some (.int .i64 x108_1_72) ∧
          ∀ h73 : Heap, h73 = newRowH h69 ty_impl_Sample [.int .i64 x108_0_71, .int .i64 x108_1_72] →
          ∀ h74 : Heap, h74 = newRowH h73 ty_impl_Row [.string s107_70, .slice (some ⟨h69.size, 0, none⟩) 1 1] →
          appendH h74 ty_impl_Row 2 [.string ByteArray.empty, .slice none 0 0] a104_69 n104_69 c104_69 (some ⟨h73.size, 0, none⟩) 1 fun (a112_75 : Option Addr) (n112_75 c112_75 : Nat) (h75 : Heap) =>
          ∃ (a115_76 : Option Addr) (n115_76 c115_76 : Nat), cellAt h75 h.size 0 = some (.slice a115_76 n115_76 c115_76) ∧
          (0 : Int) ≤ x6_13 ∧ (x6_13 : Int) ≤ ((n115_76 : Nat) : Int) ∧ ((n115_76 : Nat) : Int) ≤ ((c115_76 : Nat) : Int) ∧
          appendH h75 ty_impl_Row 2 [.string ByteArray.empty, .slice none 0 0] a112_75 n112_75 c112_75 (subA a115_76 c115_76 x6_13.toNat 2) (n115_76 - x6_13.toNat) fun (a118_77 : Option Addr) (n118_77 c118_77 : Nat) (h77 : Heap) =>
          ∃ (e78 : TypeId) (c78 : List Value), Row h77 h.size e78 c78 ∧ 0 < c78.length ∧
          ∀ h79 : Heap, h79 = putRow h77 h.size e78 (c78.set 0 (.slice a118_77 n118_77 c118_77)) →
          ∃ (a120_0_80 : Option Addr) (n120_0_80 c120_0_80 : Nat), cellAt h79 h.size 0 = some (.slice a120_0_80 n120_0_80 c120_0_80) ∧
          ∃ (x120_1_81 : Int), cellAt h79 h.size 1 = some (.int .i64 x120_1_81) ∧
          ∃ (e82 : TypeId) (c82 : List Value), Row h79 h7.size e82 c82 ∧ 0 + 2 ≤ c82.length ∧
          ∀ h83 : Heap, h83 = putRow h79 h7.size e82 (splice c82 0 [.slice a120_0_80 n120_0_80 c120_0_80, .int .i64 x120_1_81]) →
          ∃ (ar0_0_84 : Option Addr) (nr0_0_84 cr0_0_84 : Nat), cellAt h83 h7.size 0 = some (.slice ar0_0_84 nr0_0_84 cr0_0_84) ∧
          ∃ (xr0_1_85 : Int), cellAt h83 h7.size 1 = some (.int .i64 xr0_1_85) ∧
          R (.tuple ⟨[.agg ⟨[.slice ar0_0_84 nr0_0_84 cr0_0_84, .int .i64 xr0_1_85]⟩, .int .i64 1]⟩) h83))))) → K19 [.bool t53_20] h19) →
    ∃ (a40_86 : Option Addr) (n40_86 c40_86 : Nat), cellAt h18 h.size 0 = some (.slice a40_86 n40_86 c40_86) ∧
    (((decide ((x6_13 : Int) < ((n40_86 : Nat) : Int))) = true →
      ∃ (a45_87 : Option Addr) (n45_87 c45_87 : Nat), cellAt h18 h.size 0 = some (.slice a45_87 n45_87 c45_87) ∧
      ∃ (b47_88 o47_88 : Nat), a45_87 = some ⟨b47_88, o47_88, none⟩ ∧ (0 : Int) ≤ x6_13 ∧ (x6_13 : Int) < ((n45_87 : Nat) : Int) ∧
      ∃ (s49_89 : ByteArray), cellAt h18 b47_88 (o47_88 + (x6_13.toNat * 2)) = some (.string s49_89) ∧
      ∃ (s51_90 : ByteArray), cellAt h18 h6.size 0 = some (.string s51_90) ∧
      K19 [.bool ((ByteArray.toList s49_89) == (ByteArray.toList s51_90))] h18) ∧
    ((decide ((x6_13 : Int) < ((n40_86 : Nat) : Int))) = false →
      K19 [.bool false] h18))) → K12 [.int .i64 x6_13] h12) →
  ∃ (I91 : List Value → Heap → Prop) (μ91 : List Value → Heap → Nat), I91 [.int .i64 0] h11 ∧
  ∀ h91 : Heap, ∀ (x6_92 : Int), I91 [.int .i64 x6_92] h91 →
    ∃ (a17_93 : Option Addr) (n17_93 c17_93 : Nat), cellAt h91 h.size 0 = some (.slice a17_93 n17_93 c17_93) ∧
    (((decide ((x6_92 : Int) < ((n17_93 : Nat) : Int))) = true →
      ∃ (a22_94 : Option Addr) (n22_94 c22_94 : Nat), cellAt h91 h.size 0 = some (.slice a22_94 n22_94 c22_94) ∧
      ∃ (b24_95 o24_95 : Nat), a22_94 = some ⟨b24_95, o24_95, none⟩ ∧ (0 : Int) ≤ x6_92 ∧ (x6_92 : Int) < ((n22_94 : Nat) : Int) ∧
      ∃ (s26_96 : ByteArray), cellAt h91 b24_95 (o24_95 + (x6_92.toNat * 2)) = some (.string s26_96) ∧
      ∃ (s28_97 : ByteArray), cellAt h91 h6.size 0 = some (.string s28_97) ∧
      (((Op.bytesLess (ByteArray.toList s26_96) (ByteArray.toList s28_97)) = true →
        I91 [.int .i64 (IntKind.i64.wrap (x6_92 + 1))] h91 ∧ μ91 [.int .i64 (IntKind.i64.wrap (x6_92 + 1))] h91 < μ91 [.int .i64 x6_92] h91) ∧
      ((Op.bytesLess (ByteArray.toList s26_96) (ByteArray.toList s28_97)) = false →
        K12 [.int .i64 x6_92] h91))) ∧
    ((decide ((x6_92 : Int) < ((n17_93 : Nat) : Int))) = false →
      K12 [.int .i64 x6_92] h91))
def plan_spec_l13Take : Plan := .seq none (.leaf) (.seq none (.leaf) (.seq none (.leaf) (.seq (some [(6, .l (.int .i64))]) (.block (.loop [(6, .l (.int .i64))] (.seq none (.seq none (.draw (.op 0 (.op 1 (.op 2 (.op 3 (.op 4 (.op 5 (.op 6 (.op 7 (.op 8 (.op 9 (.op 10 (.op 11 (.op 12 (.op 13 (.op 14 (.op 15 .done))))))))))))))))) (.cond (.leaf) (.leaf))) (.block (.leaf))))) (.seq none (.leaf) (.seq none (.seq (some [(53, .l (.bool))]) (.draw (.op 0 (.op 1 (.op 2 (.op 3 (.op 4 (.op 5 (.op 6 (.op 7 (.op 8 (.op 9 (.op 10 (.op 11 (.op 12 (.op 13 (.op 14 (.op 15 .done))))))))))))))))) (.cond (.seq none (.leaf) (.seq none (.leaf) (.seq none (.block (.seq none (.leaf) (.cond (.seq none (.leaf) (.leaf)) (.seq none (.leaf) (.cond (.seq none (.leaf) (.leaf)) (.seq none (.leaf) (.cond (.seq none (.leaf) (.leaf)) (.leaf)))))))) (.seq none (.draw (.op 0 (.op 1 (.op 2 (.op 3 (.op 4 (.op 5 (.op 6 (.op 7 (.op 8 (.op 9 .done))))))))))) (.seq none (.leaf) (.leaf)))))) (.leaf))) (.seq none (.seq none (.leaf) (.cond (.seq none (.leaf) (.leaf)) (.leaf))) (.seq none (.leaf) (.seq none (.leaf) (.seq none (.leaf) (.seq none (.leaf) (.leaf)))))))))))
theorem tie_spec_l13Take : (fun (ap0_0_1 : Option Addr) (np0_0_1 cp0_0_1 : Nat) (xp0_1_2 : Int) (sp1_0_3 : ByteArray) (xp1_1_4 : Int) (xp1_2_5 : Int) (h : Heap) (R : Value → Heap → Prop) => denF X0 Try.f170 (bodyOf Try.f170) plan_spec_l13Take [.agg [.sl ap0_0_1 np0_0_1 cp0_0_1, .int .i64 xp0_1_2], .agg [.str sp1_0_3, .int .i64 xp1_1_4, .int .i64 xp1_2_5]] h R) = M_spec_l13Take := by kernel_rfl
theorem calls_spec_l13Take (ap0_0_1 : Option Addr) (np0_0_1 cp0_0_1 : Nat) (xp0_1_2 : Int) (sp1_0_3 : ByteArray) (xp1_1_4 : Int) (xp1_2_5 : Int) {h : Heap} {R : Value → Heap → Prop} (hm : M_spec_l13Take ap0_0_1 np0_0_1 cp0_0_1 xp0_1_2 sp1_0_3 xp1_1_4 xp1_2_5 h R) : CallsH PP fn_spec_l13Take [.agg ⟨[.slice ap0_0_1 np0_0_1 cp0_0_1, .int .i64 xp0_1_2]⟩, .agg ⟨[.string sp1_0_3, .int .i64 xp1_1_4, .int .i64 xp1_2_5]⟩] h R :=
  callsH_of X0ok Try.func170 (by kernel_rfl) plan_spec_l13Take [.agg [.sl ap0_0_1 np0_0_1 cp0_0_1, .int .i64 xp0_1_2], .agg [.str sp1_0_3, .int .i64 xp1_1_4, .int .i64 xp1_2_5]] (Eq.mpr (congrFun (congrFun (congrFun (congrFun (congrFun (congrFun (congrFun (congrFun (congrFun tie_spec_l13Take ap0_0_1) np0_0_1) cp0_0_1) xp0_1_2) sp1_0_3) xp1_1_4) xp1_2_5) h) R) hm)
/- 35: impl.PlayPlain -/
def M_impl_PlayPlain (ap0_1 : Option Addr) (np0_1 cp0_1 : Nat) (h : Heap) (R : Value → Heap → Prop) : Prop :=
  ∀ h2 : Heap, h2 = newRowH h ty_impl_Head [.slice none 0 0, .int .i64 0] →
  (((decide ((((np0_1 : Nat) : Int) : Int) > 60)) = true →
    ∃ (e3 : TypeId) (c3 : List Value), Row h2 h.size e3 c3 ∧ 0 + 2 ≤ c3.length ∧
    ∀ h4 : Heap, h4 = putRow h2 h.size e3 (splice c3 0 [.slice none 0 0, .int .i64 0]) →
    ∃ (ar0_0_5 : Option Addr) (nr0_0_5 cr0_0_5 : Nat), cellAt h4 h.size 0 = some (.slice ar0_0_5 nr0_0_5 cr0_0_5) ∧
    ∃ (xr0_1_6 : Int), cellAt h4 h.size 1 = some (.int .i64 xr0_1_6) ∧
    R (.tuple ⟨[.agg ⟨[.slice ar0_0_5 nr0_0_5 cr0_0_5, .int .i64 xr0_1_6]⟩, .bool false]⟩) h4) ∧
  ((decide ((((np0_1 : Nat) : Int) : Int) > 60)) = false →
    ∃ (I7 : List Value → Heap → Prop) (μ7 : List Value → Heap → Nat), I7 [.slice none 0 0, .int .i64 0] h2 ∧
    ∀ h7 : Heap, ∀ (a4_8 : Option Addr) (n4_8 c4_8 : Nat), ∀ (x16_9 : Int), I7 [.slice a4_8 n4_8 c4_8, .int .i64 x16_9] h7 →
      (((decide ((x16_9 : Int) < ((np0_1 : Nat) : Int))) = true →
        ∃ (b18_10 o18_10 : Nat), ap0_1 = some ⟨b18_10, o18_10, none⟩ ∧ (0 : Int) ≤ x16_9 ∧ (x16_9 : Int) < ((np0_1 : Nat) : Int) ∧
        ∃ (x19_0_11 : Int), cellAt h7 b18_10 (o18_10 + (x16_9.toNat * 5)) = some (.int .i64 x19_0_11) ∧
        ∃ (x19_1_12 : Int), cellAt h7 b18_10 (o18_10 + (x16_9.toNat * 5) + 1) = some (.int .i64 x19_1_12) ∧
        ∃ (s19_2_13 : ByteArray), cellAt h7 b18_10 (o18_10 + (x16_9.toNat * 5) + 2) = some (.string s19_2_13) ∧
        ∃ (x19_3_14 : Int), cellAt h7 b18_10 (o18_10 + (x16_9.toNat * 5) + 3) = some (.int .i64 x19_3_14) ∧
        ∃ (x19_4_15 : Int), cellAt h7 b18_10 (o18_10 + (x16_9.toNat * 5) + 4) = some (.int .i64 x19_4_15) ∧
        ∀ h16 : Heap, h16 = newRowH h7 ty_impl_HouseStep [.int .i64 0, .int .i64 0, .string ByteArray.empty, .int .i64 0, .int .i64 0] →
        ∃ (e17 : TypeId) (c17 : List Value), Row h16 h7.size e17 c17 ∧ 0 + 5 ≤ c17.length ∧
        ∀ h18 : Heap, h18 = putRow h16 h7.size e17 (splice c17 0 [.int .i64 x19_0_11, .int .i64 x19_1_12, .string s19_2_13, .int .i64 x19_3_14, .int .i64 x19_4_15]) →
        ∃ (x21_19 : Int), cellAt h18 h7.size 0 = some (.int .i64 x21_19) ∧
        ((((x21_19 : Int) == 1) = true →
          ∃ (s25_0_20 : ByteArray), cellAt h18 h7.size 2 = some (.string s25_0_20) ∧
          ∃ (x25_1_21 : Int), cellAt h18 h7.size 3 = some (.int .i64 x25_1_21) ∧
          ∃ (x25_2_22 : Int), cellAt h18 h7.size 4 = some (.int .i64 x25_2_22) ∧
          CallsH PP fn_impl_isSay [.agg ⟨[.string s25_0_20, .int .i64 x25_1_21, .int .i64 x25_2_22]⟩] h18 fun (v23 : Value) (h23 : Heap) =>
          ∃ (t26_24 : Bool), v23 = .bool t26_24 ∧
          ((t26_24 = true →
            ∃ (s30_0_25 : ByteArray), cellAt h23 h7.size 2 = some (.string s30_0_25) ∧
            ∃ (x30_1_26 : Int), cellAt h23 h7.size 3 = some (.int .i64 x30_1_26) ∧
            ∃ (x30_2_27 : Int), cellAt h23 h7.size 4 = some (.int .i64 x30_2_27) ∧
            ∀ h28 : Heap, h28 = newRowH h23 ty_impl_Say [.string s30_0_25, .int .i64 x30_1_26, .int .i64 x30_2_27] →
            appendH h28 ty_impl_Say 3 [.string ByteArray.empty, .int .i64 0, .int .i64 0] a4_8 n4_8 c4_8 (some ⟨h23.size, 0, none⟩) 1 fun (a32_29 : Option Addr) (n32_29 c32_29 : Nat) (h29 : Heap) =>
            I7 [.slice a32_29 n32_29 c32_29, .int .i64 (IntKind.i64.wrap (x16_9 + 1))] h29 ∧ μ7 [.slice a32_29 n32_29 c32_29, .int .i64 (IntKind.i64.wrap (x16_9 + 1))] h29 < μ7 [.slice a4_8 n4_8 c4_8, .int .i64 x16_9] h7) ∧
          (t26_24 = false →
            I7 [.slice a4_8 n4_8 c4_8, .int .i64 (IntKind.i64.wrap (x16_9 + 1))] h23 ∧ μ7 [.slice a4_8 n4_8 c4_8, .int .i64 (IntKind.i64.wrap (x16_9 + 1))] h23 < μ7 [.slice a4_8 n4_8 c4_8, .int .i64 x16_9] h7))) ∧
        (((x21_19 : Int) == 1) = false →
          I7 [.slice a4_8 n4_8 c4_8, .int .i64 (IntKind.i64.wrap (x16_9 + 1))] h18 ∧ μ7 [.slice a4_8 n4_8 c4_8, .int .i64 (IntKind.i64.wrap (x16_9 + 1))] h18 < μ7 [.slice a4_8 n4_8 c4_8, .int .i64 x16_9] h7))) ∧
      ((decide ((x16_9 : Int) < ((np0_1 : Nat) : Int))) = false →
        CallsH PP fn_impl_foldSays [.agg ⟨[.slice none 0 0, .int .i64 0]⟩, .slice a4_8 n4_8 c4_8] h7 fun (v30 : Value) (h30 : Heap) =>
        ∃ (a37_0_0_31 : Option Addr) (n37_0_0_31 c37_0_0_31 : Nat) (x37_0_1_32 : Int), ∃ (a37_1_33 : Option Addr) (n37_1_33 c37_1_33 : Nat), ∃ (t37_2_34 : Bool), v30 = .tuple ⟨[.agg ⟨[.slice a37_0_0_31 n37_0_0_31 c37_0_0_31, .int .i64 x37_0_1_32]⟩, .slice a37_1_33 n37_1_33 c37_1_33, .bool t37_2_34]⟩ ∧
        ∀ h35 : Heap, h35 = newRowH h30 ty_impl_Head [.slice none 0 0, .int .i64 0] →
        ∃ (e36 : TypeId) (c36 : List Value), Row h35 h30.size e36 c36 ∧ 0 + 2 ≤ c36.length ∧
        ∀ h37 : Heap, h37 = putRow h35 h30.size e36 (splice c36 0 [.slice a37_0_0_31 n37_0_0_31 c37_0_0_31, .int .i64 x37_0_1_32]) →
        ∃ (a41_0_38 : Option Addr) (n41_0_38 c41_0_38 : Nat), cellAt h37 h30.size 0 = some (.slice a41_0_38 n41_0_38 c41_0_38) ∧
        ∃ (x41_1_39 : Int), cellAt h37 h30.size 1 = some (.int .i64 x41_1_39) ∧
        ∃ (e40 : TypeId) (c40 : List Value), Row h37 h.size e40 c40 ∧ 0 + 2 ≤ c40.length ∧
        ∀ h41 : Heap, h41 = putRow h37 h.size e40 (splice c40 0 [.slice a41_0_38 n41_0_38 c41_0_38, .int .i64 x41_1_39]) →
        ∃ (ar0_0_42 : Option Addr) (nr0_0_42 cr0_0_42 : Nat), cellAt h41 h.size 0 = some (.slice ar0_0_42 nr0_0_42 cr0_0_42) ∧
        ∃ (xr0_1_43 : Int), cellAt h41 h.size 1 = some (.int .i64 xr0_1_43) ∧
        R (.tuple ⟨[.agg ⟨[.slice ar0_0_42 nr0_0_42 cr0_0_42, .int .i64 xr0_1_43]⟩, .bool t37_2_34]⟩) h41))))
def plan_impl_PlayPlain : Plan := .seq none (.leaf) (.seq none (.seq none (.leaf) (.cond (.seq none (.leaf) (.leaf)) (.leaf))) (.seq none (.leaf) (.seq none (.seq none (.leaf) (.block (.loop [(4, .l (.slice)), (16, .l (.int .i64))] (.seq none (.leaf) (.seq none (.cond (.leaf) (.leaf)) (.seq none (.block (.seq none (.leaf) (.seq none (.leaf) (.cond (.leaf) (.leaf))))) (.leaf))))))) (.seq none (.leaf) (.seq none (.leaf) (.leaf))))))
theorem tie_impl_PlayPlain : (fun (ap0_1 : Option Addr) (np0_1 cp0_1 : Nat) (h : Heap) (R : Value → Heap → Prop) => denF X0 Try.f35 (bodyOf Try.f35) plan_impl_PlayPlain [.l (.sl ap0_1 np0_1 cp0_1)] h R) = M_impl_PlayPlain := by kernel_rfl
theorem calls_impl_PlayPlain (ap0_1 : Option Addr) (np0_1 cp0_1 : Nat) {h : Heap} {R : Value → Heap → Prop} (hm : M_impl_PlayPlain ap0_1 np0_1 cp0_1 h R) : CallsH PP fn_impl_PlayPlain [.slice ap0_1 np0_1 cp0_1] h R :=
  callsH_of X0ok Try.func35 (by kernel_rfl) plan_impl_PlayPlain [.l (.sl ap0_1 np0_1 cp0_1)] (Eq.mpr (congrFun (congrFun (congrFun (congrFun (congrFun tie_impl_PlayPlain ap0_1) np0_1) cp0_1) h) R) hm)
/- 107: impl.isSay -/
def M_impl_isSay (sp0_0_1 : ByteArray) (xp0_1_2 : Int) (xp0_2_3 : Int) (h : Heap) (R : Value → Heap → Prop) : Prop :=
  ∀ h4 : Heap, h4 = newRowH h ty_impl_Say [.string sp0_0_1, .int .i64 xp0_1_2, .int .i64 xp0_2_3] →
  ∃ (s4_5 : ByteArray), cellAt h4 h.size 0 = some (.string s4_5) ∧
  CallsH PP fn_impl_isWord [.string s4_5, .bool false] h4 fun (v6 : Value) (h6 : Heap) =>
  ∃ (t5_7 : Bool), v6 = .bool t5_7 ∧
  ((t5_7 = true →
    ∃ (x8_8 : Int), cellAt h6 h.size 1 = some (.int .i64 x8_8) ∧
    ∃ (x10_9 : Int), cellAt h6 h.size 2 = some (.int .i64 x10_9) ∧
    CallsH PP fn_impl_isSample [.agg ⟨[.int .i64 x8_8, .int .i64 x10_9]⟩] h6 fun (v10 : Value) (h10 : Heap) =>
    ∃ (t12_11 : Bool), v10 = .bool t12_11 ∧
    R (.bool t12_11) h10) ∧
  (t5_7 = false →
    R (.bool false) h6))
def plan_impl_isSay : Plan := .seq none (.leaf) (.seq none (.leaf) (.leaf))
theorem tie_impl_isSay : (fun (sp0_0_1 : ByteArray) (xp0_1_2 : Int) (xp0_2_3 : Int) (h : Heap) (R : Value → Heap → Prop) => denF X0 Try.f107 (bodyOf Try.f107) plan_impl_isSay [.agg [.str sp0_0_1, .int .i64 xp0_1_2, .int .i64 xp0_2_3]] h R) = M_impl_isSay := by kernel_rfl
theorem calls_impl_isSay (sp0_0_1 : ByteArray) (xp0_1_2 : Int) (xp0_2_3 : Int) {h : Heap} {R : Value → Heap → Prop} (hm : M_impl_isSay sp0_0_1 xp0_1_2 xp0_2_3 h R) : CallsH PP fn_impl_isSay [.agg ⟨[.string sp0_0_1, .int .i64 xp0_1_2, .int .i64 xp0_2_3]⟩] h R :=
  callsH_of X0ok Try.func107 (by kernel_rfl) plan_impl_isSay [.agg [.str sp0_0_1, .int .i64 xp0_1_2, .int .i64 xp0_2_3]] (Eq.mpr (congrFun (congrFun (congrFun (congrFun (congrFun tie_impl_isSay sp0_0_1) xp0_1_2) xp0_2_3) h) R) hm)
/- 172: impl.isWord -/
def M_impl_isWord (sp0_1 : ByteArray) (tp1_2 : Bool) (h : Heap) (R : Value → Heap → Prop) : Prop :=
  ∃ (I3 : List Value → Heap → Prop) (μ3 : List Value → Heap → Nat), I3 [.int .i64 0] h ∧
  ∀ h3 : Heap, ∀ (x8_4 : Int), I3 [.int .i64 x8_4] h3 →
    (((decide ((x8_4 : Int) < ((sp0_1.size : Nat) : Int))) = true →
      (0 : Int) ≤ x8_4 ∧ (x8_4 : Int) < ((sp0_1.size : Nat) : Int) ∧
      (((decide (((byteAt sp0_1 x8_4.toNat) : Int) < 97)) = false →
        (0 : Int) ≤ x8_4 ∧ (x8_4 : Int) < ((sp0_1.size : Nat) : Int) ∧
        (((decide (((byteAt sp0_1 x8_4.toNat) : Int) > 122)) = true →
          (((!tp1_2) = false →
            (0 : Int) ≤ x8_4 ∧ (x8_4 : Int) < ((sp0_1.size : Nat) : Int) ∧
            (((decide (((byteAt sp0_1 x8_4.toNat) : Int) < 48)) = false →
              (0 : Int) ≤ x8_4 ∧ (x8_4 : Int) < ((sp0_1.size : Nat) : Int) ∧
              (((decide (((byteAt sp0_1 x8_4.toNat) : Int) > 57)) = true →
                R (.bool false) h3) ∧
              ((decide (((byteAt sp0_1 x8_4.toNat) : Int) > 57)) = false →
                I3 [.int .i64 (IntKind.i64.wrap (x8_4 + 1))] h3 ∧ μ3 [.int .i64 (IntKind.i64.wrap (x8_4 + 1))] h3 < μ3 [.int .i64 x8_4] h3))) ∧
            ((decide (((byteAt sp0_1 x8_4.toNat) : Int) < 48)) = true →
              R (.bool false) h3))) ∧
          ((!tp1_2) = true →
            R (.bool false) h3))) ∧
        ((decide (((byteAt sp0_1 x8_4.toNat) : Int) > 122)) = false →
          I3 [.int .i64 (IntKind.i64.wrap (x8_4 + 1))] h3 ∧ μ3 [.int .i64 (IntKind.i64.wrap (x8_4 + 1))] h3 < μ3 [.int .i64 x8_4] h3))) ∧
      ((decide (((byteAt sp0_1 x8_4.toNat) : Int) < 97)) = true →
        (((!tp1_2) = false →
          (0 : Int) ≤ x8_4 ∧ (x8_4 : Int) < ((sp0_1.size : Nat) : Int) ∧
          (((decide (((byteAt sp0_1 x8_4.toNat) : Int) < 48)) = false →
            (0 : Int) ≤ x8_4 ∧ (x8_4 : Int) < ((sp0_1.size : Nat) : Int) ∧
            (((decide (((byteAt sp0_1 x8_4.toNat) : Int) > 57)) = true →
              R (.bool false) h3) ∧
            ((decide (((byteAt sp0_1 x8_4.toNat) : Int) > 57)) = false →
              I3 [.int .i64 (IntKind.i64.wrap (x8_4 + 1))] h3 ∧ μ3 [.int .i64 (IntKind.i64.wrap (x8_4 + 1))] h3 < μ3 [.int .i64 x8_4] h3))) ∧
          ((decide (((byteAt sp0_1 x8_4.toNat) : Int) < 48)) = true →
            R (.bool false) h3))) ∧
        ((!tp1_2) = true →
          R (.bool false) h3))))) ∧
    ((decide ((x8_4 : Int) < ((sp0_1.size : Nat) : Int))) = false →
      CallsH PP fn_impl_within [.int .i64 ((sp0_1.size : Nat) : Int), .int .i64 1, .int .i64 8] h3 fun (v5 : Value) (h5 : Heap) =>
      ∃ (t40_6 : Bool), v5 = .bool t40_6 ∧
      R (.bool t40_6) h5))
def plan_impl_isWord : Plan := .seq none (.leaf) (.seq none (.seq none (.leaf) (.block (.loop [(8, .l (.int .i64))] (.seq none (.leaf) (.seq none (.cond (.leaf) (.leaf)) (.seq none (.block (.seq none (.leaf) (.seq none (.leaf) (.cond (.seq none (.leaf) (.leaf)) (.leaf))))) (.leaf))))))) (.seq none (.leaf) (.leaf)))
theorem tie_impl_isWord : (fun (sp0_1 : ByteArray) (tp1_2 : Bool) (h : Heap) (R : Value → Heap → Prop) => denF X0 Try.f172 (bodyOf Try.f172) plan_impl_isWord [.l (.str sp0_1), .l (.bool tp1_2)] h R) = M_impl_isWord := by kernel_rfl
theorem calls_impl_isWord (sp0_1 : ByteArray) (tp1_2 : Bool) {h : Heap} {R : Value → Heap → Prop} (hm : M_impl_isWord sp0_1 tp1_2 h R) : CallsH PP fn_impl_isWord [.string sp0_1, .bool tp1_2] h R :=
  callsH_of X0ok Try.func172 (by kernel_rfl) plan_impl_isWord [.l (.str sp0_1), .l (.bool tp1_2)] (Eq.mpr (congrFun (congrFun (congrFun (congrFun tie_impl_isWord sp0_1) tp1_2) h) R) hm)
/- 173: impl.isSample -/
def M_impl_isSample (xp0_0_1 : Int) (xp0_1_2 : Int) (h : Heap) (R : Value → Heap → Prop) : Prop :=
  ∀ h3 : Heap, h3 = newRowH h ty_impl_Sample [.int .i64 xp0_0_1, .int .i64 xp0_1_2] →
  ∃ (x4_4 : Int), cellAt h3 h.size 0 = some (.int .i64 x4_4) ∧
  CallsH PP fn_impl_within [.int .i64 x4_4, .int .i64 0, .int .i64 1000000000] h3 fun (v5 : Value) (h5 : Heap) =>
  ∃ (t5_6 : Bool), v5 = .bool t5_6 ∧
  ((t5_6 = true →
    ∃ (x8_7 : Int), cellAt h5 h.size 1 = some (.int .i64 x8_7) ∧
    CallsH PP fn_impl_within [.int .i64 x8_7, .int .i64 (-1000000000), .int .i64 1000000000] h5 fun (v8 : Value) (h8 : Heap) =>
    ∃ (t9_9 : Bool), v8 = .bool t9_9 ∧
    R (.bool t9_9) h8) ∧
  (t5_6 = false →
    R (.bool false) h5))
def plan_impl_isSample : Plan := .seq none (.leaf) (.seq none (.leaf) (.leaf))
theorem tie_impl_isSample : (fun (xp0_0_1 : Int) (xp0_1_2 : Int) (h : Heap) (R : Value → Heap → Prop) => denF X0 Try.f173 (bodyOf Try.f173) plan_impl_isSample [.agg [.int .i64 xp0_0_1, .int .i64 xp0_1_2]] h R) = M_impl_isSample := by kernel_rfl
theorem calls_impl_isSample (xp0_0_1 : Int) (xp0_1_2 : Int) {h : Heap} {R : Value → Heap → Prop} (hm : M_impl_isSample xp0_0_1 xp0_1_2 h R) : CallsH PP fn_impl_isSample [.agg ⟨[.int .i64 xp0_0_1, .int .i64 xp0_1_2]⟩] h R :=
  callsH_of X0ok Try.func173 (by kernel_rfl) plan_impl_isSample [.agg [.int .i64 xp0_0_1, .int .i64 xp0_1_2]] (Eq.mpr (congrFun (congrFun (congrFun (congrFun tie_impl_isSample xp0_0_1) xp0_1_2) h) R) hm)
/- 108: impl.foldSays -/
def M_impl_foldSays (ap0_0_1 : Option Addr) (np0_0_1 cp0_0_1 : Nat) (xp0_1_2 : Int) (ap1_3 : Option Addr) (np1_3 cp1_3 : Nat) (h : Heap) (R : Value → Heap → Prop) : Prop :=
  ∀ h4 : Heap, h4 = newRowH h ty_impl_Head [.slice ap0_0_1 np0_0_1 cp0_0_1, .int .i64 xp0_1_2] →
  ∀ h5 : Heap, h5 = newRowH h4 ty_impl_Head [.slice none 0 0, .int .i64 0] →
  ∃ (a11_0_6 : Option Addr) (n11_0_6 c11_0_6 : Nat), cellAt h5 h.size 0 = some (.slice a11_0_6 n11_0_6 c11_0_6) ∧
  ∃ (x11_1_7 : Int), cellAt h5 h.size 1 = some (.int .i64 x11_1_7) ∧
  CallsH PP fn_impl_cloneHead [.agg ⟨[.slice a11_0_6 n11_0_6 c11_0_6, .int .i64 x11_1_7]⟩] h5 fun (v8 : Value) (h8 : Heap) =>
  ∃ (a12_0_9 : Option Addr) (n12_0_9 c12_0_9 : Nat) (x12_1_10 : Int), v8 = .agg ⟨[.slice a12_0_9 n12_0_9 c12_0_9, .int .i64 x12_1_10]⟩ ∧
  ∀ h11 : Heap, h11 = newRowH h8 ty_impl_Head [.slice none 0 0, .int .i64 0] →
  ∃ (e12 : TypeId) (c12 : List Value), Row h11 h8.size e12 c12 ∧ 0 + 2 ≤ c12.length ∧
  ∀ h13 : Heap, h13 = putRow h11 h8.size e12 (splice c12 0 [.slice a12_0_9 n12_0_9 c12_0_9, .int .i64 x12_1_10]) →
  ∃ (I14 : List Value → Heap → Prop) (μ14 : List Value → Heap → Nat), I14 [.slice none 0 0, .int .i64 0] h13 ∧
  ∀ h14 : Heap, ∀ (a8_15 : Option Addr) (n8_15 c8_15 : Nat), ∀ (x15_16 : Int), I14 [.slice a8_15 n8_15 c8_15, .int .i64 x15_16] h14 →
    (((decide ((x15_16 : Int) < ((np1_3 : Nat) : Int))) = true →
      ∃ (b17_17 o17_17 : Nat), ap1_3 = some ⟨b17_17, o17_17, none⟩ ∧ (0 : Int) ≤ x15_16 ∧ (x15_16 : Int) < ((np1_3 : Nat) : Int) ∧
      ∃ (s18_0_18 : ByteArray), cellAt h14 b17_17 (o17_17 + (x15_16.toNat * 3)) = some (.string s18_0_18) ∧
      ∃ (x18_1_19 : Int), cellAt h14 b17_17 (o17_17 + (x15_16.toNat * 3) + 1) = some (.int .i64 x18_1_19) ∧
      ∃ (x18_2_20 : Int), cellAt h14 b17_17 (o17_17 + (x15_16.toNat * 3) + 2) = some (.int .i64 x18_2_20) ∧
      ∀ h21 : Heap, h21 = newRowH h14 ty_impl_Say [.string ByteArray.empty, .int .i64 0, .int .i64 0] →
      ∃ (e22 : TypeId) (c22 : List Value), Row h21 h14.size e22 c22 ∧ 0 + 3 ≤ c22.length ∧
      ∀ h23 : Heap, h23 = putRow h21 h14.size e22 (splice c22 0 [.string s18_0_18, .int .i64 x18_1_19, .int .i64 x18_2_20]) →
      ∃ (s19_0_24 : ByteArray), cellAt h23 h14.size 0 = some (.string s19_0_24) ∧
      ∃ (x19_1_25 : Int), cellAt h23 h14.size 1 = some (.int .i64 x19_1_25) ∧
      ∃ (x19_2_26 : Int), cellAt h23 h14.size 2 = some (.int .i64 x19_2_26) ∧
      CallsH PP fn_impl_isSay [.agg ⟨[.string s19_0_24, .int .i64 x19_1_25, .int .i64 x19_2_26]⟩] h23 fun (v27 : Value) (h27 : Heap) =>
      ∃ (t20_28 : Bool), v27 = .bool t20_28 ∧
      (((!t20_28) = false →
        ∃ (x24_29 : Int), cellAt h27 h8.size 1 = some (.int .i64 x24_29) ∧
        ((((x24_29 : Int) == 1000) = true →
          ∃ (e30 : TypeId) (c30 : List Value), Row h27 h4.size e30 c30 ∧ 0 + 2 ≤ c30.length ∧
          ∀ h31 : Heap, h31 = putRow h27 h4.size e30 (splice c30 0 [.slice none 0 0, .int .i64 0]) →
          ∃ (ar0_0_32 : Option Addr) (nr0_0_32 cr0_0_32 : Nat), cellAt h31 h4.size 0 = some (.slice ar0_0_32 nr0_0_32 cr0_0_32) ∧
          ∃ (xr0_1_33 : Int), cellAt h31 h4.size 1 = some (.int .i64 xr0_1_33) ∧
          R (.tuple ⟨[.agg ⟨[.slice ar0_0_32 nr0_0_32 cr0_0_32, .int .i64 xr0_1_33]⟩, .slice none 0 0, .bool false]⟩) h31) ∧
        (((x24_29 : Int) == 1000) = false →
          ∃ (s29_0_34 : ByteArray), cellAt h27 h14.size 0 = some (.string s29_0_34) ∧
          ∃ (x29_1_35 : Int), cellAt h27 h14.size 1 = some (.int .i64 x29_1_35) ∧
          ∃ (x29_2_36 : Int), cellAt h27 h14.size 2 = some (.int .i64 x29_2_36) ∧
          CallsH PP fn_impl_Head_take [.pointer (some ⟨h8.size, 0, none⟩), .agg ⟨[.string s29_0_34, .int .i64 x29_1_35, .int .i64 x29_2_36]⟩] h27 fun (v37 : Value) (h37 : Heap) =>
          ∃ (x30_38 : Int), v37 = .int .i64 x30_38 ∧
          ∀ h39 : Heap, h39 = newRowH h37 ty_int [.int .i64 x30_38] →
          appendH h39 ty_int 1 [.int .i64 0] a8_15 n8_15 c8_15 (some ⟨h37.size, 0, none⟩) 1 fun (a32_40 : Option Addr) (n32_40 c32_40 : Nat) (h40 : Heap) =>
          I14 [.slice a32_40 n32_40 c32_40, .int .i64 (IntKind.i64.wrap (x15_16 + 1))] h40 ∧ μ14 [.slice a32_40 n32_40 c32_40, .int .i64 (IntKind.i64.wrap (x15_16 + 1))] h40 < μ14 [.slice a8_15 n8_15 c8_15, .int .i64 x15_16] h14))) ∧
      ((!t20_28) = true →
        ∃ (e41 : TypeId) (c41 : List Value), Row h27 h4.size e41 c41 ∧ 0 + 2 ≤ c41.length ∧
        ∀ h42 : Heap, h42 = putRow h27 h4.size e41 (splice c41 0 [.slice none 0 0, .int .i64 0]) →
        ∃ (ar0_0_43 : Option Addr) (nr0_0_43 cr0_0_43 : Nat), cellAt h42 h4.size 0 = some (.slice ar0_0_43 nr0_0_43 cr0_0_43) ∧
        ∃ (xr0_1_44 : Int), cellAt h42 h4.size 1 = some (.int .i64 xr0_1_44) ∧
        R (.tuple ⟨[.agg ⟨[.slice ar0_0_43 nr0_0_43 cr0_0_43, .int .i64 xr0_1_44]⟩, .slice none 0 0, .bool false]⟩) h42))) ∧
    ((decide ((x15_16 : Int) < ((np1_3 : Nat) : Int))) = false →
      ∃ (a34_0_45 : Option Addr) (n34_0_45 c34_0_45 : Nat), cellAt h14 h8.size 0 = some (.slice a34_0_45 n34_0_45 c34_0_45) ∧
      ∃ (x34_1_46 : Int), cellAt h14 h8.size 1 = some (.int .i64 x34_1_46) ∧
      ∃ (e47 : TypeId) (c47 : List Value), Row h14 h4.size e47 c47 ∧ 0 + 2 ≤ c47.length ∧
      ∀ h48 : Heap, h48 = putRow h14 h4.size e47 (splice c47 0 [.slice a34_0_45 n34_0_45 c34_0_45, .int .i64 x34_1_46]) →
      ∃ (ar0_0_49 : Option Addr) (nr0_0_49 cr0_0_49 : Nat), cellAt h48 h4.size 0 = some (.slice ar0_0_49 nr0_0_49 cr0_0_49) ∧
      ∃ (xr0_1_50 : Int), cellAt h48 h4.size 1 = some (.int .i64 xr0_1_50) ∧
      R (.tuple ⟨[.agg ⟨[.slice ar0_0_49 nr0_0_49 cr0_0_49, .int .i64 xr0_1_50]⟩, .slice a8_15 n8_15 c8_15, .bool true]⟩) h48))
def plan_impl_foldSays : Plan := .seq none (.leaf) (.seq none (.leaf) (.seq none (.leaf) (.seq none (.seq none (.leaf) (.block (.loop [(8, .l (.slice)), (15, .l (.int .i64))] (.seq none (.leaf) (.seq none (.cond (.leaf) (.leaf)) (.seq none (.block (.seq none (.leaf) (.seq none (.seq none (.leaf) (.cond (.seq none (.leaf) (.leaf)) (.leaf))) (.leaf)))) (.leaf))))))) (.seq none (.leaf) (.leaf)))))
theorem tie_impl_foldSays : (fun (ap0_0_1 : Option Addr) (np0_0_1 cp0_0_1 : Nat) (xp0_1_2 : Int) (ap1_3 : Option Addr) (np1_3 cp1_3 : Nat) (h : Heap) (R : Value → Heap → Prop) => denF X0 Try.f108 (bodyOf Try.f108) plan_impl_foldSays [.agg [.sl ap0_0_1 np0_0_1 cp0_0_1, .int .i64 xp0_1_2], .l (.sl ap1_3 np1_3 cp1_3)] h R) = M_impl_foldSays := by kernel_rfl
theorem calls_impl_foldSays (ap0_0_1 : Option Addr) (np0_0_1 cp0_0_1 : Nat) (xp0_1_2 : Int) (ap1_3 : Option Addr) (np1_3 cp1_3 : Nat) {h : Heap} {R : Value → Heap → Prop} (hm : M_impl_foldSays ap0_0_1 np0_0_1 cp0_0_1 xp0_1_2 ap1_3 np1_3 cp1_3 h R) : CallsH PP fn_impl_foldSays [.agg ⟨[.slice ap0_0_1 np0_0_1 cp0_0_1, .int .i64 xp0_1_2]⟩, .slice ap1_3 np1_3 cp1_3] h R :=
  callsH_of X0ok Try.func108 (by kernel_rfl) plan_impl_foldSays [.agg [.sl ap0_0_1 np0_0_1 cp0_0_1, .int .i64 xp0_1_2], .l (.sl ap1_3 np1_3 cp1_3)] (Eq.mpr (congrFun (congrFun (congrFun (congrFun (congrFun (congrFun (congrFun (congrFun (congrFun tie_impl_foldSays ap0_0_1) np0_0_1) cp0_0_1) xp0_1_2) ap1_3) np1_3) cp1_3) h) R) hm)
/- 174: impl.cloneHead -/
def M_impl_cloneHead (ap0_0_1 : Option Addr) (np0_0_1 cp0_0_1 : Nat) (xp0_1_2 : Int) (h : Heap) (R : Value → Heap → Prop) : Prop :=
  ∀ h3 : Heap, h3 = newRowH h ty_impl_Head [.slice ap0_0_1 np0_0_1 cp0_0_1, .int .i64 xp0_1_2] →
  ∀ h4 : Heap, h4 = newRowH h3 ty_impl_Head [.slice none 0 0, .int .i64 0] →
  ∃ (x7_5 : Int), cellAt h4 h.size 1 = some (.int .i64 x7_5) ∧
  ∀ h6 : Heap, h6 = newRowH h4 ty_impl_Head [.slice none 0 0, .int .i64 0] →
  ∃ (e7 : TypeId) (c7 : List Value), Row h6 h4.size e7 c7 ∧ 0 + 2 ≤ c7.length ∧
  ∀ h8 : Heap, h8 = putRow h6 h4.size e7 (splice c7 0 [.slice none 0 0, .int .i64 x7_5]) →
  ∃ (a10_9 : Option Addr) (n10_9 c10_9 : Nat), cellAt h8 h.size 0 = some (.slice a10_9 n10_9 c10_9) ∧
  ∃ (I10 : List Value → Heap → Prop) (μ10 : List Value → Heap → Nat), I10 [.int .i64 0] h8 ∧
  ∀ h10 : Heap, ∀ (x12_11 : Int), I10 [.int .i64 x12_11] h10 →
    (((decide ((x12_11 : Int) < ((n10_9 : Nat) : Int))) = true →
      ∃ (b14_12 o14_12 : Nat), a10_9 = some ⟨b14_12, o14_12, none⟩ ∧ (0 : Int) ≤ x12_11 ∧ (x12_11 : Int) < ((n10_9 : Nat) : Int) ∧
      ∃ (s15_0_13 : ByteArray), cellAt h10 b14_12 (o14_12 + (x12_11.toNat * 2)) = some (.string s15_0_13) ∧
      ∃ (a15_1_14 : Option Addr) (n15_1_14 c15_1_14 : Nat), cellAt h10 b14_12 (o14_12 + (x12_11.toNat * 2) + 1) = some (.slice a15_1_14 n15_1_14 c15_1_14) ∧
      ∀ h15 : Heap, h15 = newRowH h10 ty_impl_Row [.string ByteArray.empty, .slice none 0 0] →
      ∃ (e16 : TypeId) (c16 : List Value), Row h15 h10.size e16 c16 ∧ 0 + 2 ≤ c16.length ∧
      ∀ h17 : Heap, h17 = putRow h15 h10.size e16 (splice c16 0 [.string s15_0_13, .slice a15_1_14 n15_1_14 c15_1_14]) →
      ∃ (a17_18 : Option Addr) (n17_18 c17_18 : Nat), cellAt h17 h4.size 0 = some (.slice a17_18 n17_18 c17_18) ∧
      ∃ (s19_19 : ByteArray), cellAt h17 h10.size 0 = some (.string s19_19) ∧
      ∃ (a21_20 : Option Addr) (n21_20 c21_20 : Nat), cellAt h17 h10.size 1 = some (.slice a21_20 n21_20 c21_20) ∧
      CallsH PP fn_slices_Clone_impl_Sample [.slice a21_20 n21_20 c21_20] h17 fun (v21 : Value) (h21 : Heap) =>
      ∃ (a22_22 : Option Addr) (n22_22 c22_22 : Nat), v21 = .slice a22_22 n22_22 c22_22 ∧
      cellAt h21 h10.size 0 = some (.string s19_19) ∧
      cellAt h21 h4.size 0 = some (.slice a17_18 n17_18 c17_18) ∧
      ∀ h23 : Heap, h23 = newRowH h21 ty_impl_Row [.string s19_19, .slice a22_22 n22_22 c22_22] →
      cellAt h23 h4.size 0 = some (.slice a17_18 n17_18 c17_18) ∧
      appendH h23 ty_impl_Row 2 [.string ByteArray.empty, .slice none 0 0] a17_18 n17_18 c17_18 (some ⟨h21.size, 0, none⟩) 1 fun (a25_24 : Option Addr) (n25_24 c25_24 : Nat) (h24 : Heap) =>
      ∃ (e25 : TypeId) (c25 : List Value), Row h24 h4.size e25 c25 ∧ 0 < c25.length ∧
      ∀ h26 : Heap, h26 = putRow h24 h4.size e25 (c25.set 0 (.slice a25_24 n25_24 c25_24)) →
      I10 [.int .i64 (IntKind.i64.wrap (x12_11 + 1))] h26 ∧ μ10 [.int .i64 (IntKind.i64.wrap (x12_11 + 1))] h26 < μ10 [.int .i64 x12_11] h10) ∧
    ((decide ((x12_11 : Int) < ((n10_9 : Nat) : Int))) = false →
      ∃ (a28_0_27 : Option Addr) (n28_0_27 c28_0_27 : Nat), cellAt h10 h4.size 0 = some (.slice a28_0_27 n28_0_27 c28_0_27) ∧
      ∃ (x28_1_28 : Int), cellAt h10 h4.size 1 = some (.int .i64 x28_1_28) ∧
      ∃ (e29 : TypeId) (c29 : List Value), Row h10 h3.size e29 c29 ∧ 0 + 2 ≤ c29.length ∧
      ∀ h30 : Heap, h30 = putRow h10 h3.size e29 (splice c29 0 [.slice a28_0_27 n28_0_27 c28_0_27, .int .i64 x28_1_28]) →
      ∃ (ar0_0_31 : Option Addr) (nr0_0_31 cr0_0_31 : Nat), cellAt h30 h3.size 0 = some (.slice ar0_0_31 nr0_0_31 cr0_0_31) ∧
      ∃ (xr0_1_32 : Int), cellAt h30 h3.size 1 = some (.int .i64 xr0_1_32) ∧
      R (.agg ⟨[.slice ar0_0_31 nr0_0_31 cr0_0_31, .int .i64 xr0_1_32]⟩) h30))
def plan_impl_cloneHead : Plan := .seq none (.leaf) (.seq none (.leaf) (.seq none (.seq none (.leaf) (.block (.loop [(12, .l (.int .i64))] (.seq none (.leaf) (.seq none (.cond (.leaf) (.leaf)) (.seq none (.block (.seq none (.leaf) (.draw (.op 0 (.op 1 (.op 2 (.op 3 (.op 4 (.op 5 (.op 6 (.op 7 (.op 8 (.op 9 (.op 10 (.op 11 .done))))))))))))))) (.leaf))))))) (.seq none (.leaf) (.leaf))))
theorem tie_impl_cloneHead : (fun (ap0_0_1 : Option Addr) (np0_0_1 cp0_0_1 : Nat) (xp0_1_2 : Int) (h : Heap) (R : Value → Heap → Prop) => denF X0 Try.f174 (bodyOf Try.f174) plan_impl_cloneHead [.agg [.sl ap0_0_1 np0_0_1 cp0_0_1, .int .i64 xp0_1_2]] h R) = M_impl_cloneHead := by kernel_rfl
theorem calls_impl_cloneHead (ap0_0_1 : Option Addr) (np0_0_1 cp0_0_1 : Nat) (xp0_1_2 : Int) {h : Heap} {R : Value → Heap → Prop} (hm : M_impl_cloneHead ap0_0_1 np0_0_1 cp0_0_1 xp0_1_2 h R) : CallsH PP fn_impl_cloneHead [.agg ⟨[.slice ap0_0_1 np0_0_1 cp0_0_1, .int .i64 xp0_1_2]⟩] h R :=
  callsH_of X0ok Try.func174 (by kernel_rfl) plan_impl_cloneHead [.agg [.sl ap0_0_1 np0_0_1 cp0_0_1, .int .i64 xp0_1_2]] (Eq.mpr (congrFun (congrFun (congrFun (congrFun (congrFun (congrFun tie_impl_cloneHead ap0_0_1) np0_0_1) cp0_0_1) xp0_1_2) h) R) hm)
/- 175: (*impl.Head).take -/
def M_impl_Head_take (b0 o0 : Nat) (sp1_0_1 : ByteArray) (xp1_1_2 : Int) (xp1_2_3 : Int) (h : Heap) (R : Value → Heap → Prop) : Prop :=
  ∀ h4 : Heap, h4 = newRowH h ty_impl_Say [.string sp1_0_1, .int .i64 xp1_1_2, .int .i64 xp1_2_3] →
  ∃ (x13_5 : Int), cellAt h4 b0 (o0 + 1) = some (.int .i64 x13_5) ∧
  ∃ (e6 : TypeId) (c6 : List Value), Row h4 b0 e6 c6 ∧ o0 + 1 < c6.length ∧
  ∀ h7 : Heap, h7 = putRow h4 b0 e6 (c6.set (o0 + 1) (.int .i64 (IntKind.i64.wrap (x13_5 + 1)))) →
  ∃ (s20_8 : ByteArray), cellAt h7 h.size 0 = some (.string s20_8) ∧
  CallsH PP fn_impl_Head_find [.pointer (some ⟨b0, o0, none⟩), .string s20_8] h7 fun (v9 : Value) (h9 : Heap) =>
  ∃ (x21_0_10 : Int), ∃ (t21_1_11 : Bool), v9 = .tuple ⟨[.int .i64 x21_0_10, .bool t21_1_11]⟩ ∧
  ∀ (K12 : List Value → Heap → Prop), (∀ h12 : Heap, (
    ∃ (a48_13 : Option Addr) (n48_13 c48_13 : Nat), cellAt h12 b0 o0 = some (.slice a48_13 n48_13 c48_13) ∧
    ∃ (b50_14 o50_14 : Nat), a48_13 = some ⟨b50_14, o50_14, none⟩ ∧ (0 : Int) ≤ x21_0_10 ∧ (x21_0_10 : Int) < ((n48_13 : Nat) : Int) ∧
    ∀ (K15 : List Value → Heap → Prop), (∀ h15 : Heap, (
      ∃ (a84_16 : Option Addr) (n84_16 c84_16 : Nat), cellAt h15 b50_14 (o50_14 + (x21_0_10.toNat * 2) + 1) = some (.slice a84_16 n84_16 c84_16) ∧
      ∃ (x86_17 : Int), cellAt h15 h.size 1 = some (.int .i64 x86_17) ∧
      ∃ (x88_18 : Int), cellAt h15 h.size 2 = some (.int .i64 x88_18) ∧
      ∀ h19 : Heap, h19 = newRowH h15 ty_impl_Sample [.int .i64 x86_17, .int .i64 x88_18] →
      cellAt h19 b50_14 (o50_14 + (x21_0_10.toNat * 2) + 1) = some (.slice a84_16 n84_16 c84_16) ∧
      appendH h19 ty_impl_Sample 2 [.int .i64 0, .int .i64 0] a84_16 n84_16 c84_16 (some ⟨h15.size, 0, none⟩) 1 fun (a91_20 : Option Addr) (n91_20 c91_20 : Nat) (h20 : Heap) =>
      ∃ (e21 : TypeId) (c21 : List Value), Row h20 b50_14 e21 c21 ∧ o50_14 + (x21_0_10.toNat * 2) + 1 < c21.length ∧
      ∀ h22 : Heap, h22 = putRow h20 b50_14 e21 (c21.set (o50_14 + (x21_0_10.toNat * 2) + 1) (.slice a91_20 n91_20 c91_20)) →
      R (.int .i64 1) h22) → K15 [] h15) →
    ∃ (a54_23 : Option Addr) (n54_23 c54_23 : Nat), cellAt h12 b50_14 (o50_14 + (x21_0_10.toNat * 2) + 1) = some (.slice a54_23 n54_23 c54_23) ∧
    (((decide ((((n54_23 : Nat) : Int) : Int) > 0)) = true →
      ∃ (a61_24 : Option Addr) (n61_24 c61_24 : Nat), cellAt h12 b50_14 (o50_14 + (x21_0_10.toNat * 2) + 1) = some (.slice a61_24 n61_24 c61_24) ∧
      ∃ (b64_25 o64_25 : Nat), a61_24 = some ⟨b64_25, o64_25, none⟩ ∧ (0 : Int) ≤ IntKind.i64.wrap (((n54_23 : Nat) : Int) - 1) ∧ (IntKind.i64.wrap (((n54_23 : Nat) : Int) - 1) : Int) < ((n61_24 : Nat) : Int) ∧
      ∃ (x66_26 : Int), cellAt h12 b64_25 (o64_25 + (((IntKind.i64.wrap (((n54_23 : Nat) : Int) - 1)).toNat) * 2)) = some (.int .i64 x66_26) ∧
      ∃ (x70_27 : Int), cellAt h12 h.size 1 = some (.int .i64 x70_27) ∧
      ((((x66_26 : Int) == x70_27) = true →
        R (.int .i64 2) h12) ∧
      (((x66_26 : Int) == x70_27) = false →
        ∃ (x75_28 : Int), cellAt h12 h.size 1 = some (.int .i64 x75_28) ∧
        (((decide ((x66_26 : Int) > x75_28)) = true →
          R (.int .i64 3) h12) ∧
        ((decide ((x66_26 : Int) > x75_28)) = false →
          ((((((n54_23 : Nat) : Int) : Int) == 40) = true →
            R (.int .i64 4) h12) ∧
          (((((n54_23 : Nat) : Int) : Int) == 40) = false →
            K15 [] h12))))))) ∧
    ((decide ((((n54_23 : Nat) : Int) : Int) > 0)) = false →
      K15 [] h12))) → K12 [] h12) →
  (((!t21_1_11) = true →
    ∃ (a29_29 : Option Addr) (n29_29 c29_29 : Nat), cellAt h9 b0 o0 = some (.slice a29_29 n29_29 c29_29) ∧
    ((((((n29_29 : Nat) : Int) : Int) == 8) = true →
      R (.int .i64 4) h9) ∧
    (((((n29_29 : Nat) : Int) : Int) == 8) = false →
      ∃ (a36_30 : Option Addr) (n36_30 c36_30 : Nat), cellAt h9 b0 o0 = some (.slice a36_30 n36_30 c36_30) ∧
      ∃ (s39_31 : ByteArray), cellAt h9 h.size 0 = some (.string s39_31) ∧
      ∀ h32 : Heap, h32 = newRowH h9 ty_impl_Row [.string s39_31, .slice none 0 0] →
      cellAt h32 b0 o0 = some (.slice a36_30 n36_30 c36_30) ∧
      CallsH PP fn_slices_Insert_impl_Row [.slice a36_30 n36_30 c36_30, .int .i64 x21_0_10, .slice (some ⟨h9.size, 0, none⟩) 1 1] h32 fun (v33 : Value) (h33 : Heap) =>
      ∃ (a42_34 : Option Addr) (n42_34 c42_34 : Nat), v33 = .slice a42_34 n42_34 c42_34 ∧
      ∃ (e35 : TypeId) (c35 : List Value), Row h33 b0 e35 c35 ∧ o0 < c35.length ∧
      ∀ h36 : Heap, h36 = putRow h33 b0 e35 (c35.set o0 (.slice a42_34 n42_34 c42_34)) →
      K12 [] h36))) ∧
  ((!t21_1_11) = false →
    K12 [] h9))
def plan_impl_Head_take : Plan := .seq none (.leaf) (.seq none (.leaf) (.seq none (.leaf) (.seq (some []) (.seq none (.leaf) (.cond (.seq none (.seq none (.leaf) (.cond (.seq none (.leaf) (.leaf)) (.leaf))) (.draw (.op 0 (.op 1 (.op 2 (.op 3 (.op 4 (.op 5 (.op 6 (.op 7 (.op 8 (.op 9 (.op 10 (.op 11 (.op 12 (.op 13 .done)))))))))))))))) (.leaf))) (.seq none (.leaf) (.seq (some []) (.seq none (.leaf) (.seq none (.leaf) (.cond (.seq none (.leaf) (.block (.seq none (.leaf) (.cond (.seq none (.leaf) (.leaf)) (.seq none (.leaf) (.cond (.seq none (.leaf) (.leaf)) (.seq none (.leaf) (.cond (.seq none (.leaf) (.leaf)) (.leaf))))))))) (.leaf)))) (.seq none (.draw (.op 0 (.op 1 (.op 2 (.op 3 (.op 4 (.op 5 (.op 6 (.op 7 (.op 8 (.op 9 (.op 10 (.op 11 (.op 12 (.op 13 (.op 14 .done)))))))))))))))) (.seq none (.leaf) (.leaf))))))))
theorem tie_impl_Head_take : (fun (b0 o0 : Nat) (sp1_0_1 : ByteArray) (xp1_1_2 : Int) (xp1_2_3 : Int) (h : Heap) (R : Value → Heap → Prop) => denF X0 Try.f175 (bodyOf Try.f175) plan_impl_Head_take [.l (.ptrB b0 o0), .agg [.str sp1_0_1, .int .i64 xp1_1_2, .int .i64 xp1_2_3]] h R) = M_impl_Head_take := by kernel_rfl
theorem calls_impl_Head_take (b0 o0 : Nat) (sp1_0_1 : ByteArray) (xp1_1_2 : Int) (xp1_2_3 : Int) {h : Heap} {R : Value → Heap → Prop} (hm : M_impl_Head_take b0 o0 sp1_0_1 xp1_1_2 xp1_2_3 h R) : CallsH PP fn_impl_Head_take [.pointer (some ⟨b0, o0, none⟩), .agg ⟨[.string sp1_0_1, .int .i64 xp1_1_2, .int .i64 xp1_2_3]⟩] h R :=
  callsH_of X0ok Try.func175 (by kernel_rfl) plan_impl_Head_take [.l (.ptrB b0 o0), .agg [.str sp1_0_1, .int .i64 xp1_1_2, .int .i64 xp1_2_3]] (Eq.mpr (congrFun (congrFun (congrFun (congrFun (congrFun (congrFun (congrFun tie_impl_Head_take b0) o0) sp1_0_1) xp1_1_2) xp1_2_3) h) R) hm)
/- 218: (*impl.Head).find -/
def M_impl_Head_find (b0 o0 : Nat) (sp1_1 : ByteArray) (h : Heap) (R : Value → Heap → Prop) : Prop :=
  ∃ (a9_2 : Option Addr) (n9_2 c9_2 : Nat), cellAt h b0 o0 = some (.slice a9_2 n9_2 c9_2) ∧
  CallsH PP fn_slices_BinarySearchFunc_impl_Row [.slice a9_2 n9_2 c9_2, .string sp1_1, .func (.func fn_impl_Head_find_1) #[] ⟨[]⟩] h fun (v3 : Value) (h3 : Heap) =>
  ∃ (x11_0_4 : Int), ∃ (t11_1_5 : Bool), v3 = .tuple ⟨[.int .i64 x11_0_4, .bool t11_1_5]⟩ ∧
  R (.tuple ⟨[.int .i64 x11_0_4, .bool t11_1_5]⟩) h3
def plan_impl_Head_find : Plan := .seq none (.leaf) (.seq none (.leaf) (.leaf))
theorem tie_impl_Head_find : (fun (b0 o0 : Nat) (sp1_1 : ByteArray) (h : Heap) (R : Value → Heap → Prop) => denF X0 Try.f218 (bodyOf Try.f218) plan_impl_Head_find [.l (.ptrB b0 o0), .l (.str sp1_1)] h R) = M_impl_Head_find := by kernel_rfl
theorem calls_impl_Head_find (b0 o0 : Nat) (sp1_1 : ByteArray) {h : Heap} {R : Value → Heap → Prop} (hm : M_impl_Head_find b0 o0 sp1_1 h R) : CallsH PP fn_impl_Head_find [.pointer (some ⟨b0, o0, none⟩), .string sp1_1] h R :=
  callsH_of X0ok Try.func218 (by kernel_rfl) plan_impl_Head_find [.l (.ptrB b0 o0), .l (.str sp1_1)] (Eq.mpr (congrFun (congrFun (congrFun (congrFun (congrFun tie_impl_Head_find b0) o0) sp1_1) h) R) hm)
/- 246: (*impl.Head).find$1 -/
def M_impl_Head_find_1 (sp0_0_1 : ByteArray) (ap0_1_2 : Option Addr) (np0_1_2 cp0_1_2 : Nat) (sp1_3 : ByteArray) (h : Heap) (R : Value → Heap → Prop) : Prop :=
  ∀ h4 : Heap, h4 = newRowH h ty_impl_Row [.string sp0_0_1, .slice ap0_1_2 np0_1_2 cp0_1_2] →
  ∃ (s6_5 : ByteArray), cellAt h4 h.size 0 = some (.string s6_5) ∧
  CallsH PP fn_strings_Compare [.string s6_5, .string sp1_3] h4 fun (v6 : Value) (h6 : Heap) =>
  ∃ (x8_7 : Int), v6 = .int .i64 x8_7 ∧
  R (.int .i64 x8_7) h6
def plan_impl_Head_find_1 : Plan := .seq none (.leaf) (.seq none (.leaf) (.leaf))
theorem tie_impl_Head_find_1 : (fun (sp0_0_1 : ByteArray) (ap0_1_2 : Option Addr) (np0_1_2 cp0_1_2 : Nat) (sp1_3 : ByteArray) (h : Heap) (R : Value → Heap → Prop) => denF X0 Try.f246 (bodyOf Try.f246) plan_impl_Head_find_1 [.agg [.str sp0_0_1, .sl ap0_1_2 np0_1_2 cp0_1_2], .l (.str sp1_3)] h R) = M_impl_Head_find_1 := by kernel_rfl
theorem calls_impl_Head_find_1 (sp0_0_1 : ByteArray) (ap0_1_2 : Option Addr) (np0_1_2 cp0_1_2 : Nat) (sp1_3 : ByteArray) {h : Heap} {R : Value → Heap → Prop} (hm : M_impl_Head_find_1 sp0_0_1 ap0_1_2 np0_1_2 cp0_1_2 sp1_3 h R) : CallsH PP fn_impl_Head_find_1 [.agg ⟨[.string sp0_0_1, .slice ap0_1_2 np0_1_2 cp0_1_2]⟩, .string sp1_3] h R :=
  callsH_of X0ok Try.func246 (by kernel_rfl) plan_impl_Head_find_1 [.agg [.str sp0_0_1, .sl ap0_1_2 np0_1_2 cp0_1_2], .l (.str sp1_3)] (Eq.mpr (congrFun (congrFun (congrFun (congrFun (congrFun (congrFun (congrFun tie_impl_Head_find_1 sp0_0_1) ap0_1_2) np0_1_2) cp0_1_2) sp1_3) h) R) hm)
/- 217: slices.Clone[[]impl.Sample,impl.Sample] -/
def M_slices_Clone_impl_Sample (ap0_1 : Option Addr) (np0_1 cp0_1 : Nat) (h : Heap) (R : Value → Heap → Prop) : Prop :=
  ((ap0_1.isNone = true →
    R (.slice none 0 0) h) ∧
  (ap0_1.isNone = false →
    ∀ h2 : Heap, h2 = newRowH h ty_impl_Sample [] →
    appendH h2 ty_impl_Sample 2 [.int .i64 0, .int .i64 0] (some ⟨h.size, 0, none⟩) 0 0 ap0_1 np0_1 fun (a7_3 : Option Addr) (n7_3 c7_3 : Nat) (h3 : Heap) =>
    R (.slice a7_3 n7_3 c7_3) h3))
def plan_slices_Clone_impl_Sample : Plan := .seq none (.leaf) (.seq none (.seq none (.leaf) (.cond (.seq none (.leaf) (.leaf)) (.leaf))) (.seq none (.leaf) (.leaf)))
theorem tie_slices_Clone_impl_Sample : (fun (ap0_1 : Option Addr) (np0_1 cp0_1 : Nat) (h : Heap) (R : Value → Heap → Prop) => denF X0 Try.f217 (bodyOf Try.f217) plan_slices_Clone_impl_Sample [.l (.sl ap0_1 np0_1 cp0_1)] h R) = M_slices_Clone_impl_Sample := by kernel_rfl
theorem calls_slices_Clone_impl_Sample (ap0_1 : Option Addr) (np0_1 cp0_1 : Nat) {h : Heap} {R : Value → Heap → Prop} (hm : M_slices_Clone_impl_Sample ap0_1 np0_1 cp0_1 h R) : CallsH PP fn_slices_Clone_impl_Sample [.slice ap0_1 np0_1 cp0_1] h R :=
  callsH_of X0ok Try.func217 (by kernel_rfl) plan_slices_Clone_impl_Sample [.l (.sl ap0_1 np0_1 cp0_1)] (Eq.mpr (congrFun (congrFun (congrFun (congrFun (congrFun tie_slices_Clone_impl_Sample ap0_1) np0_1) cp0_1) h) R) hm)
/- 245: slices.BinarySearchFunc[[]impl.Row,impl.Row,string] -/
def M_slices_BinarySearchFunc_impl_Row (ap0_1 : Option Addr) (np0_1 cp0_1 : Nat) (sp1_2 : ByteArray) (vp2_3 : Value) (h : Heap) (R : Value → Heap → Prop) : Prop :=
  ∃ (I4 : List Value → Heap → Prop) (μ4 : List Value → Heap → Nat), I4 [.int .i64 0, .int .i64 ((np0_1 : Nat) : Int)] h ∧
  ∀ h4 : Heap, ∀ (x9_5 : Int), ∀ (x10_6 : Int), I4 [.int .i64 x9_5, .int .i64 x10_6] h4 →
    (((decide ((x9_5 : Int) < x10_6)) = true →
      (0 : Int) ≤ 1 ∧
      ∃ (b27_7 o27_7 : Nat), ap0_1 = some ⟨b27_7, o27_7, none⟩ ∧ (0 : Int) ≤ IntKind.i64.wrap (Int.fdiv (IntKind.u64.wrap (IntKind.i64.wrap (x9_5 + x10_6))) (2 ^ min 1 (IntKind.bits .u64))) ∧ (IntKind.i64.wrap (Int.fdiv (IntKind.u64.wrap (IntKind.i64.wrap (x9_5 + x10_6))) (2 ^ min 1 (IntKind.bits .u64))) : Int) < ((np0_1 : Nat) : Int) ∧
      ∃ (s28_0_8 : ByteArray), cellAt h4 b27_7 (o27_7 + (((IntKind.i64.wrap (Int.fdiv (IntKind.u64.wrap (IntKind.i64.wrap (x9_5 + x10_6))) (2 ^ min 1 (IntKind.bits .u64)))).toNat) * 2)) = some (.string s28_0_8) ∧
      ∃ (a28_1_9 : Option Addr) (n28_1_9 c28_1_9 : Nat), cellAt h4 b27_7 (o27_7 + (((IntKind.i64.wrap (Int.fdiv (IntKind.u64.wrap (IntKind.i64.wrap (x9_5 + x10_6))) (2 ^ min 1 (IntKind.bits .u64)))).toNat) * 2) + 1) = some (.slice a28_1_9 n28_1_9 c28_1_9) ∧
      ∃ (g10 : FuncId) (k10 : List Value), vp2_3 = .func (.func g10) #[] ⟨k10⟩ ∧ Callable PP g10 ∧ CallsH PP g10 ([.agg ⟨[.string s28_0_8, .slice a28_1_9 n28_1_9 c28_1_9]⟩, .string sp1_2] ++ k10) h4 fun (v10 : Value) (h10 : Heap) =>
      ∃ (x30_11 : Int), v10 = .int .i64 x30_11 ∧
      (((decide ((x30_11 : Int) < 0)) = true →
        I4 [.int .i64 (IntKind.i64.wrap ((IntKind.i64.wrap (Int.fdiv (IntKind.u64.wrap (IntKind.i64.wrap (x9_5 + x10_6))) (2 ^ min 1 (IntKind.bits .u64)))) + 1)), .int .i64 x10_6] h10 ∧ μ4 [.int .i64 (IntKind.i64.wrap ((IntKind.i64.wrap (Int.fdiv (IntKind.u64.wrap (IntKind.i64.wrap (x9_5 + x10_6))) (2 ^ min 1 (IntKind.bits .u64)))) + 1)), .int .i64 x10_6] h10 < μ4 [.int .i64 x9_5, .int .i64 x10_6] h4) ∧
      ((decide ((x30_11 : Int) < 0)) = false →
        I4 [.int .i64 x9_5, .int .i64 (IntKind.i64.wrap (Int.fdiv (IntKind.u64.wrap (IntKind.i64.wrap (x9_5 + x10_6))) (2 ^ min 1 (IntKind.bits .u64))))] h10 ∧ μ4 [.int .i64 x9_5, .int .i64 (IntKind.i64.wrap (Int.fdiv (IntKind.u64.wrap (IntKind.i64.wrap (x9_5 + x10_6))) (2 ^ min 1 (IntKind.bits .u64))))] h10 < μ4 [.int .i64 x9_5, .int .i64 x10_6] h4))) ∧
    ((decide ((x9_5 : Int) < x10_6)) = false →
      (((decide ((x9_5 : Int) < ((np0_1 : Nat) : Int))) = true →
        ∃ (b43_12 o43_12 : Nat), ap0_1 = some ⟨b43_12, o43_12, none⟩ ∧ (0 : Int) ≤ x9_5 ∧ (x9_5 : Int) < ((np0_1 : Nat) : Int) ∧
        ∃ (s44_0_13 : ByteArray), cellAt h4 b43_12 (o43_12 + (x9_5.toNat * 2)) = some (.string s44_0_13) ∧
        ∃ (a44_1_14 : Option Addr) (n44_1_14 c44_1_14 : Nat), cellAt h4 b43_12 (o43_12 + (x9_5.toNat * 2) + 1) = some (.slice a44_1_14 n44_1_14 c44_1_14) ∧
        ∃ (g15 : FuncId) (k15 : List Value), vp2_3 = .func (.func g15) #[] ⟨k15⟩ ∧ Callable PP g15 ∧ CallsH PP g15 ([.agg ⟨[.string s44_0_13, .slice a44_1_14 n44_1_14 c44_1_14]⟩, .string sp1_2] ++ k15) h4 fun (v15 : Value) (h15 : Heap) =>
        ∃ (x46_16 : Int), v15 = .int .i64 x46_16 ∧
        R (.tuple ⟨[.int .i64 x9_5, .bool ((x46_16 : Int) == 0)]⟩) h15) ∧
      ((decide ((x9_5 : Int) < ((np0_1 : Nat) : Int))) = false →
        R (.tuple ⟨[.int .i64 x9_5, .bool false]⟩) h4))))
def plan_slices_BinarySearchFunc_impl_Row : Plan := .seq none (.leaf) (.seq none (.leaf) (.seq none (.leaf) (.seq none (.block (.loop [(9, .l (.int .i64)), (10, .l (.int .i64))] (.seq none (.seq none (.leaf) (.cond (.leaf) (.leaf))) (.block (.seq none (.leaf) (.seq none (.leaf) (.cond (.leaf) (.leaf)))))))) (.seq none (.leaf) (.leaf)))))
theorem tie_slices_BinarySearchFunc_impl_Row : (fun (ap0_1 : Option Addr) (np0_1 cp0_1 : Nat) (sp1_2 : ByteArray) (vp2_3 : Value) (h : Heap) (R : Value → Heap → Prop) => denF X0 Try.f245 (bodyOf Try.f245) plan_slices_BinarySearchFunc_impl_Row [.l (.sl ap0_1 np0_1 cp0_1), .l (.str sp1_2), .l (.any vp2_3)] h R) = M_slices_BinarySearchFunc_impl_Row := by kernel_rfl
theorem calls_slices_BinarySearchFunc_impl_Row (ap0_1 : Option Addr) (np0_1 cp0_1 : Nat) (sp1_2 : ByteArray) (vp2_3 : Value) {h : Heap} {R : Value → Heap → Prop} (hm : M_slices_BinarySearchFunc_impl_Row ap0_1 np0_1 cp0_1 sp1_2 vp2_3 h R) : CallsH PP fn_slices_BinarySearchFunc_impl_Row [.slice ap0_1 np0_1 cp0_1, .string sp1_2, vp2_3] h R :=
  callsH_of X0ok Try.func245 (by kernel_rfl) plan_slices_BinarySearchFunc_impl_Row [.l (.sl ap0_1 np0_1 cp0_1), .l (.str sp1_2), .l (.any vp2_3)] (Eq.mpr (congrFun (congrFun (congrFun (congrFun (congrFun (congrFun (congrFun tie_slices_BinarySearchFunc_impl_Row ap0_1) np0_1) cp0_1) sp1_2) vp2_3) h) R) hm)
/- 212: strings.Compare -/
def M_strings_Compare (sp0_1 : ByteArray) (sp1_2 : ByteArray) (h : Heap) (R : Value → Heap → Prop) : Prop :=
  CallsH PP fn_internal_bytealg_CompareString [.string sp0_1, .string sp1_2] h fun (v3 : Value) (h3 : Heap) =>
  ∃ (x7_4 : Int), v3 = .int .i64 x7_4 ∧
  R (.int .i64 x7_4) h3
def plan_strings_Compare : Plan := .seq none (.leaf) (.seq none (.leaf) (.leaf))
theorem tie_strings_Compare : (fun (sp0_1 : ByteArray) (sp1_2 : ByteArray) (h : Heap) (R : Value → Heap → Prop) => denF X0 Try.f212 (bodyOf Try.f212) plan_strings_Compare [.l (.str sp0_1), .l (.str sp1_2)] h R) = M_strings_Compare := by kernel_rfl
theorem calls_strings_Compare (sp0_1 : ByteArray) (sp1_2 : ByteArray) {h : Heap} {R : Value → Heap → Prop} (hm : M_strings_Compare sp0_1 sp1_2 h R) : CallsH PP fn_strings_Compare [.string sp0_1, .string sp1_2] h R :=
  callsH_of X0ok Try.func212 (by kernel_rfl) plan_strings_Compare [.l (.str sp0_1), .l (.str sp1_2)] (Eq.mpr (congrFun (congrFun (congrFun (congrFun tie_strings_Compare sp0_1) sp1_2) h) R) hm)
/- 239: internal/bytealg.CompareString -/
def M_internal_bytealg_CompareString (sp0_1 : ByteArray) (sp1_2 : ByteArray) (h : Heap) (R : Value → Heap → Prop) : Prop :=
  ExtH PP fn_internal_bytealg_abigen_runtime_cmpstring [.string sp0_1, .string sp1_2] h fun (v3 : Value) (h3 : Heap) =>
  ∃ (x7_4 : Int), v3 = .int .i64 x7_4 ∧
  R (.int .i64 x7_4) h3
def plan_internal_bytealg_CompareString : Plan := .seq none (.leaf) (.seq none (.leaf) (.leaf))
theorem tie_internal_bytealg_CompareString : (fun (sp0_1 : ByteArray) (sp1_2 : ByteArray) (h : Heap) (R : Value → Heap → Prop) => denF X0 Try.f239 (bodyOf Try.f239) plan_internal_bytealg_CompareString [.l (.str sp0_1), .l (.str sp1_2)] h R) = M_internal_bytealg_CompareString := by kernel_rfl
theorem calls_internal_bytealg_CompareString (sp0_1 : ByteArray) (sp1_2 : ByteArray) {h : Heap} {R : Value → Heap → Prop} (hm : M_internal_bytealg_CompareString sp0_1 sp1_2 h R) : CallsH PP fn_internal_bytealg_CompareString [.string sp0_1, .string sp1_2] h R :=
  callsH_of X0ok Try.func239 (by kernel_rfl) plan_internal_bytealg_CompareString [.l (.str sp0_1), .l (.str sp1_2)] (Eq.mpr (congrFun (congrFun (congrFun (congrFun tie_internal_bytealg_CompareString sp0_1) sp1_2) h) R) hm)
/- 219: slices.Insert[[]impl.Row,impl.Row] -/
def M_slices_Insert_impl_Row (ap0_1 : Option Addr) (np0_1 cp0_1 : Nat) (xp1_2 : Int) (ap2_3 : Option Addr) (np2_3 cp2_3 : Nat) (h : Heap) (R : Value → Heap → Prop) : Prop :=
  (0 : Int) ≤ xp1_2 ∧ (xp1_2 : Int) ≤ ((np0_1 : Nat) : Int) ∧ ((np0_1 : Nat) : Int) ≤ ((cp0_1 : Nat) : Int) ∧
  ((((((np2_3 : Nat) : Int) : Int) == 0) = true →
    R (.slice ap0_1 np0_1 cp0_1) h) ∧
  (((((np2_3 : Nat) : Int) : Int) == 0) = false →
    ((((xp1_2 : Int) == ((np0_1 : Nat) : Int)) = true →
      appendH h ty_impl_Row 2 [.string ByteArray.empty, .slice none 0 0] ap0_1 np0_1 cp0_1 ap2_3 np2_3 fun (a25_4 : Option Addr) (n25_4 c25_4 : Nat) (h4 : Heap) =>
      R (.slice a25_4 n25_4 c25_4) h4) ∧
    (((xp1_2 : Int) == ((np0_1 : Nat) : Int)) = false →
      (((decide (((IntKind.i64.wrap (((np0_1 : Nat) : Int) + ((np2_3 : Nat) : Int))) : Int) > ((cp0_1 : Nat) : Int))) = true →
        (0 : Int) ≤ 0 ∧ (0 : Int) ≤ xp1_2 ∧ xp1_2 ≤ ((cp0_1 : Nat) : Int) ∧
        appendZH h ty_impl_Row 2 [.string ByteArray.empty, .slice none 0 0] ap0_1 xp1_2.toNat cp0_1 (IntKind.i64.wrap ((IntKind.i64.wrap (((np0_1 : Nat) : Int) + ((np2_3 : Nat) : Int))) - xp1_2)) fun (a40_5 : Option Addr) (n40_5 c40_5 : Nat) (h5 : Heap) =>
        (0 : Int) ≤ xp1_2 ∧ (xp1_2 : Int) ≤ ((n40_5 : Nat) : Int) ∧ ((n40_5 : Nat) : Int) ≤ ((c40_5 : Nat) : Int) ∧
        copyH h5 2 (subA a40_5 c40_5 xp1_2.toNat 2) (n40_5 - xp1_2.toNat) ap2_3 np2_3 fun (k6 : Nat) (h6 : Heap) =>
        (0 : Int) ≤ IntKind.i64.wrap (xp1_2 + ((np2_3 : Nat) : Int)) ∧ (IntKind.i64.wrap (xp1_2 + ((np2_3 : Nat) : Int)) : Int) ≤ ((n40_5 : Nat) : Int) ∧ ((n40_5 : Nat) : Int) ≤ ((c40_5 : Nat) : Int) ∧
        (0 : Int) ≤ xp1_2 ∧ (xp1_2 : Int) ≤ ((np0_1 : Nat) : Int) ∧ ((np0_1 : Nat) : Int) ≤ ((cp0_1 : Nat) : Int) ∧
        copyH h6 2 (subA a40_5 c40_5 (IntKind.i64.wrap (xp1_2 + ((np2_3 : Nat) : Int))).toNat 2) (n40_5 - (IntKind.i64.wrap (xp1_2 + ((np2_3 : Nat) : Int))).toNat) (subA ap0_1 cp0_1 xp1_2.toNat 2) (np0_1 - xp1_2.toNat) fun (k7 : Nat) (h7 : Heap) =>
        R (.slice a40_5 n40_5 c40_5) h7) ∧
      ((decide (((IntKind.i64.wrap (((np0_1 : Nat) : Int) + ((np2_3 : Nat) : Int))) : Int) > ((cp0_1 : Nat) : Int))) = false →
        (0 : Int) ≤ 0 ∧ (0 : Int) ≤ IntKind.i64.wrap (((np0_1 : Nat) : Int) + ((np2_3 : Nat) : Int)) ∧ IntKind.i64.wrap (((np0_1 : Nat) : Int) + ((np2_3 : Nat) : Int)) ≤ ((cp0_1 : Nat) : Int) ∧
        (0 : Int) ≤ IntKind.i64.wrap (xp1_2 + ((np2_3 : Nat) : Int)) ∧ (IntKind.i64.wrap (xp1_2 + ((np2_3 : Nat) : Int)) : Int) ≤ (((IntKind.i64.wrap (((np0_1 : Nat) : Int) + ((np2_3 : Nat) : Int))).toNat : Nat) : Int) ∧ (((IntKind.i64.wrap (((np0_1 : Nat) : Int) + ((np2_3 : Nat) : Int))).toNat : Nat) : Int) ≤ ((cp0_1 : Nat) : Int) ∧
        ExtH PP fn_slices_overlaps_impl_Row [.slice ap2_3 np2_3 cp2_3, .slice (subA ap0_1 cp0_1 (IntKind.i64.wrap (xp1_2 + ((np2_3 : Nat) : Int))).toNat 2) ((((IntKind.i64.wrap (((np0_1 : Nat) : Int) + ((np2_3 : Nat) : Int))).toNat : Nat) : Int).toNat - (IntKind.i64.wrap (xp1_2 + ((np2_3 : Nat) : Int))).toNat) (cp0_1 - (IntKind.i64.wrap (xp1_2 + ((np2_3 : Nat) : Int))).toNat)] h fun (v8 : Value) (h8 : Heap) =>
        ∃ (t67_9 : Bool), v8 = .bool t67_9 ∧
        (((!t67_9) = true →
          (0 : Int) ≤ IntKind.i64.wrap (xp1_2 + ((np2_3 : Nat) : Int)) ∧ (IntKind.i64.wrap (xp1_2 + ((np2_3 : Nat) : Int)) : Int) ≤ (((IntKind.i64.wrap (((np0_1 : Nat) : Int) + ((np2_3 : Nat) : Int))).toNat : Nat) : Int) ∧ (((IntKind.i64.wrap (((np0_1 : Nat) : Int) + ((np2_3 : Nat) : Int))).toNat : Nat) : Int) ≤ ((cp0_1 : Nat) : Int) ∧
          (0 : Int) ≤ xp1_2 ∧ (xp1_2 : Int) ≤ (((IntKind.i64.wrap (((np0_1 : Nat) : Int) + ((np2_3 : Nat) : Int))).toNat : Nat) : Int) ∧ (((IntKind.i64.wrap (((np0_1 : Nat) : Int) + ((np2_3 : Nat) : Int))).toNat : Nat) : Int) ≤ ((cp0_1 : Nat) : Int) ∧
          copyH h8 2 (subA ap0_1 cp0_1 (IntKind.i64.wrap (xp1_2 + ((np2_3 : Nat) : Int))).toNat 2) ((((IntKind.i64.wrap (((np0_1 : Nat) : Int) + ((np2_3 : Nat) : Int))).toNat : Nat) : Int).toNat - (IntKind.i64.wrap (xp1_2 + ((np2_3 : Nat) : Int))).toNat) (subA ap0_1 cp0_1 xp1_2.toNat 2) ((((IntKind.i64.wrap (((np0_1 : Nat) : Int) + ((np2_3 : Nat) : Int))).toNat : Nat) : Int).toNat - xp1_2.toNat) fun (k10 : Nat) (h10 : Heap) =>
          (0 : Int) ≤ xp1_2 ∧ (xp1_2 : Int) ≤ (((IntKind.i64.wrap (((np0_1 : Nat) : Int) + ((np2_3 : Nat) : Int))).toNat : Nat) : Int) ∧ (((IntKind.i64.wrap (((np0_1 : Nat) : Int) + ((np2_3 : Nat) : Int))).toNat : Nat) : Int) ≤ ((cp0_1 : Nat) : Int) ∧
          copyH h10 2 (subA ap0_1 cp0_1 xp1_2.toNat 2) ((((IntKind.i64.wrap (((np0_1 : Nat) : Int) + ((np2_3 : Nat) : Int))).toNat : Nat) : Int).toNat - xp1_2.toNat) ap2_3 np2_3 fun (k11 : Nat) (h11 : Heap) =>
          R (.slice ap0_1 ((IntKind.i64.wrap (((np0_1 : Nat) : Int) + ((np2_3 : Nat) : Int))).toNat) cp0_1) h11) ∧
        ((!t67_9) = false →
          (0 : Int) ≤ ((np0_1 : Nat) : Int) ∧ (((np0_1 : Nat) : Int) : Int) ≤ (((IntKind.i64.wrap (((np0_1 : Nat) : Int) + ((np2_3 : Nat) : Int))).toNat : Nat) : Int) ∧ (((IntKind.i64.wrap (((np0_1 : Nat) : Int) + ((np2_3 : Nat) : Int))).toNat : Nat) : Int) ≤ ((cp0_1 : Nat) : Int) ∧
          copyH h8 2 (subA ap0_1 cp0_1 np0_1 2) ((((IntKind.i64.wrap (((np0_1 : Nat) : Int) + ((np2_3 : Nat) : Int))).toNat : Nat) : Int).toNat - np0_1) ap2_3 np2_3 fun (k12 : Nat) (h12 : Heap) =>
          (0 : Int) ≤ xp1_2 ∧ (xp1_2 : Int) ≤ (((IntKind.i64.wrap (((np0_1 : Nat) : Int) + ((np2_3 : Nat) : Int))).toNat : Nat) : Int) ∧ (((IntKind.i64.wrap (((np0_1 : Nat) : Int) + ((np2_3 : Nat) : Int))).toNat : Nat) : Int) ≤ ((cp0_1 : Nat) : Int) ∧
          CallsH PP fn_slices_rotateRight_impl_Row [.slice (subA ap0_1 cp0_1 xp1_2.toNat 2) ((((IntKind.i64.wrap (((np0_1 : Nat) : Int) + ((np2_3 : Nat) : Int))).toNat : Nat) : Int).toNat - xp1_2.toNat) (cp0_1 - xp1_2.toNat), .int .i64 ((np2_3 : Nat) : Int)] h12 fun (v13 : Value) (h13 : Heap) =>
          v13 = .tuple ⟨[]⟩ ∧
          R (.slice ap0_1 ((IntKind.i64.wrap (((np0_1 : Nat) : Int) + ((np2_3 : Nat) : Int))).toNat) cp0_1) h13))))))))
def plan_slices_Insert_impl_Row : Plan := .seq none (.leaf) (.seq none (.leaf) (.seq none (.leaf) (.seq none (.seq none (.leaf) (.cond (.seq none (.leaf) (.leaf)) (.leaf))) (.seq none (.leaf) (.seq none (.seq none (.leaf) (.cond (.seq none (.leaf) (.leaf)) (.leaf))) (.seq none (.seq none (.leaf) (.cond (.seq none (.leaf) (.seq none (.leaf) (.seq none (.draw (.op 0 (.op 1 (.op 2 (.op 3 (.op 4 (.op 5 (.op 6 (.op 7 (.op 8 .done)))))))))) (.seq none (.leaf) (.leaf))))) (.leaf))) (.seq none (.leaf) (.seq none (.seq none (.leaf) (.cond (.seq none (.draw (.op 0 (.op 1 (.op 2 (.op 3 (.op 4 (.op 5 (.op 6 (.op 7 (.op 8 .done)))))))))) (.seq none (.leaf) (.seq none (.leaf) (.leaf)))) (.leaf))) (.seq none (.leaf) (.seq none (.leaf) (.seq none (.leaf) (.leaf))))))))))))
theorem tie_slices_Insert_impl_Row : (fun (ap0_1 : Option Addr) (np0_1 cp0_1 : Nat) (xp1_2 : Int) (ap2_3 : Option Addr) (np2_3 cp2_3 : Nat) (h : Heap) (R : Value → Heap → Prop) => denF X0 Try.f219 (bodyOf Try.f219) plan_slices_Insert_impl_Row [.l (.sl ap0_1 np0_1 cp0_1), .l (.int .i64 xp1_2), .l (.sl ap2_3 np2_3 cp2_3)] h R) = M_slices_Insert_impl_Row := by kernel_rfl
theorem calls_slices_Insert_impl_Row (ap0_1 : Option Addr) (np0_1 cp0_1 : Nat) (xp1_2 : Int) (ap2_3 : Option Addr) (np2_3 cp2_3 : Nat) {h : Heap} {R : Value → Heap → Prop} (hm : M_slices_Insert_impl_Row ap0_1 np0_1 cp0_1 xp1_2 ap2_3 np2_3 cp2_3 h R) : CallsH PP fn_slices_Insert_impl_Row [.slice ap0_1 np0_1 cp0_1, .int .i64 xp1_2, .slice ap2_3 np2_3 cp2_3] h R :=
  callsH_of X0ok Try.func219 (by kernel_rfl) plan_slices_Insert_impl_Row [.l (.sl ap0_1 np0_1 cp0_1), .l (.int .i64 xp1_2), .l (.sl ap2_3 np2_3 cp2_3)] (Eq.mpr (congrFun (congrFun (congrFun (congrFun (congrFun (congrFun (congrFun (congrFun (congrFun tie_slices_Insert_impl_Row ap0_1) np0_1) cp0_1) xp1_2) ap2_3) np2_3) cp2_3) h) R) hm)
end Go.Proofs.Ytjmhahjmbmiepaa.D
