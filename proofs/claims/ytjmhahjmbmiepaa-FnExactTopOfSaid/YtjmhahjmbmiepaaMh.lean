/- The M-code of functions: what their code comes to, read at the heap. PRINTED by gen.py. -/
import Derived.Test.YtjmhahjmbmiepaaTab
namespace Go.Proofs.Ytjmhahjmbmiepaa.D
open Go Go.Proofs
set_option linter.unusedVariables false
set_option linter.unusedSimpArgs false
set_option maxRecDepth 100000
/- 41: laws.szTotalS -/
def M_laws_szTotalS (ap0_1 : Option Addr) (np0_1 cp0_1 : Nat) (xp1_2 : Int) (h : Heap) (R : Value → Heap → Prop) : Prop :=
  (((decide (((IntKind.i64.wrap (xp1_2 - ((np0_1 : Nat) : Int))) : Int) < 0)) = true →
    R (.int .i64 (-1)) h) ∧
  ((decide (((IntKind.i64.wrap (xp1_2 - ((np0_1 : Nat) : Int))) : Int) < 0)) = false →
    ∃ (I3 : List Value → Heap → Prop) (μ3 : List Value → Heap → Nat), I3 [.int .i64 (IntKind.i64.wrap (xp1_2 - ((np0_1 : Nat) : Int))), .int .i64 0] h ∧
    ∀ h3 : Heap, ∀ (x1_4 : Int), ∀ (x5_5 : Int), I3 [.int .i64 x1_4, .int .i64 x5_5] h3 →
      (((decide ((x5_5 : Int) < ((np0_1 : Nat) : Int))) = true →
        ∃ (b20_6 o20_6 : Nat), ap0_1 = some ⟨b20_6, o20_6, none⟩ ∧ (0 : Int) ≤ x5_5 ∧ (x5_5 : Int) < ((np0_1 : Nat) : Int) ∧
        ∃ (a21_0_7 : Option Addr) (n21_0_7 c21_0_7 : Nat), cellAt h3 b20_6 (o20_6 + (x5_5.toNat * 5)) = some (.slice a21_0_7 n21_0_7 c21_0_7) ∧
        ∃ (x21_1_8 : Int), cellAt h3 b20_6 (o20_6 + (x5_5.toNat * 5) + 1) = some (.int .i64 x21_1_8) ∧
        ∃ (x21_2_9 : Int), cellAt h3 b20_6 (o20_6 + (x5_5.toNat * 5) + 2) = some (.int .i64 x21_2_9) ∧
        ∃ (x21_3_10 : Int), cellAt h3 b20_6 (o20_6 + (x5_5.toNat * 5) + 3) = some (.int .i64 x21_3_10) ∧
        ∃ (x21_4_11 : Int), cellAt h3 b20_6 (o20_6 + (x5_5.toNat * 5) + 4) = some (.int .i64 x21_4_11) ∧
        CallsH PP fn_laws_szTotal [.agg ⟨[.slice a21_0_7 n21_0_7 c21_0_7, .int .i64 x21_1_8, .int .i64 x21_2_9, .int .i64 x21_3_10, .int .i64 x21_4_11]⟩, .int .i64 x1_4] h3 fun (v12 : Value) (h12 : Heap) =>
        ∃ (x23_13 : Int), v12 = .int .i64 x23_13 ∧
        (((decide ((x23_13 : Int) < 0)) = true →
          R (.int .i64 (-1)) h12) ∧
        ((decide ((x23_13 : Int) < 0)) = false →
          I3 [.int .i64 x23_13, .int .i64 (IntKind.i64.wrap (x5_5 + 1))] h12 ∧ μ3 [.int .i64 x23_13, .int .i64 (IntKind.i64.wrap (x5_5 + 1))] h12 < μ3 [.int .i64 x1_4, .int .i64 x5_5] h3))) ∧
      ((decide ((x5_5 : Int) < ((np0_1 : Nat) : Int))) = false →
        R (.int .i64 x1_4) h3))))
def plan_laws_szTotalS : Plan := .seq none (.leaf) (.seq none (.leaf) (.seq none (.seq none (.leaf) (.cond (.seq none (.leaf) (.leaf)) (.leaf))) (.seq none (.seq none (.leaf) (.block (.loop [(1, .l (.int .i64)), (5, .l (.int .i64))] (.seq none (.seq none (.leaf) (.cond (.leaf) (.leaf))) (.seq none (.block (.seq none (.leaf) (.seq none (.leaf) (.cond (.seq none (.leaf) (.leaf)) (.leaf))))) (.leaf)))))) (.seq none (.leaf) (.leaf)))))
theorem tie_laws_szTotalS : (fun (ap0_1 : Option Addr) (np0_1 cp0_1 : Nat) (xp1_2 : Int) (h : Heap) (R : Value → Heap → Prop) => denF X0 Try.f41 (bodyOf Try.f41) plan_laws_szTotalS [.l (.sl ap0_1 np0_1 cp0_1), .l (.int .i64 xp1_2)] h R) = M_laws_szTotalS := by kernel_rfl
theorem calls_laws_szTotalS (ap0_1 : Option Addr) (np0_1 cp0_1 : Nat) (xp1_2 : Int) {h : Heap} {R : Value → Heap → Prop} (hm : M_laws_szTotalS ap0_1 np0_1 cp0_1 xp1_2 h R) : CallsH PP fn_laws_szTotalS [.slice ap0_1 np0_1 cp0_1, .int .i64 xp1_2] h R :=
  callsH_of X0ok Try.func41 (by kernel_rfl) plan_laws_szTotalS [.l (.sl ap0_1 np0_1 cp0_1), .l (.int .i64 xp1_2)] (Eq.mpr (congrFun (congrFun (congrFun (congrFun (congrFun (congrFun tie_laws_szTotalS ap0_1) np0_1) cp0_1) xp1_2) h) R) hm)
/- 114: laws.szTotal -/
def M_laws_szTotal (ap0_0_1 : Option Addr) (np0_0_1 cp0_0_1 : Nat) (xp0_1_2 : Int) (xp0_2_3 : Int) (xp0_3_4 : Int) (xp0_4_5 : Int) (xp1_6 : Int) (h : Heap) (R : Value → Heap → Prop) : Prop :=
  ∀ h7 : Heap, h7 = newRowH h ty_laws_Total [.slice ap0_0_1 np0_0_1 cp0_0_1, .int .i64 xp0_1_2, .int .i64 xp0_2_3, .int .i64 xp0_3_4, .int .i64 xp0_4_5] →
  ∃ (a6_8 : Option Addr) (n6_8 c6_8 : Nat), cellAt h7 h.size 0 = some (.slice a6_8 n6_8 c6_8) ∧
  CallsH PP fn_laws_szLabelS [.slice a6_8 n6_8 c6_8, .int .i64 xp1_6] h7 fun (v9 : Value) (h9 : Heap) =>
  ∃ (x8_10 : Int), v9 = .int .i64 x8_10 ∧
  (((decide ((x8_10 : Int) < 0)) = true →
    R (.int .i64 (-1)) h9) ∧
  ((decide ((x8_10 : Int) < 0)) = false →
    R (.int .i64 x8_10) h9))
def plan_laws_szTotal : Plan := .seq none (.leaf) (.seq none (.leaf) (.seq none (.seq none (.leaf) (.cond (.seq none (.leaf) (.leaf)) (.leaf))) (.seq none (.leaf) (.leaf))))
theorem tie_laws_szTotal : (fun (ap0_0_1 : Option Addr) (np0_0_1 cp0_0_1 : Nat) (xp0_1_2 : Int) (xp0_2_3 : Int) (xp0_3_4 : Int) (xp0_4_5 : Int) (xp1_6 : Int) (h : Heap) (R : Value → Heap → Prop) => denF X0 Try.f114 (bodyOf Try.f114) plan_laws_szTotal [.agg [.sl ap0_0_1 np0_0_1 cp0_0_1, .int .i64 xp0_1_2, .int .i64 xp0_2_3, .int .i64 xp0_3_4, .int .i64 xp0_4_5], .l (.int .i64 xp1_6)] h R) = M_laws_szTotal := by kernel_rfl
theorem calls_laws_szTotal (ap0_0_1 : Option Addr) (np0_0_1 cp0_0_1 : Nat) (xp0_1_2 : Int) (xp0_2_3 : Int) (xp0_3_4 : Int) (xp0_4_5 : Int) (xp1_6 : Int) {h : Heap} {R : Value → Heap → Prop} (hm : M_laws_szTotal ap0_0_1 np0_0_1 cp0_0_1 xp0_1_2 xp0_2_3 xp0_3_4 xp0_4_5 xp1_6 h R) : CallsH PP fn_laws_szTotal [.agg ⟨[.slice ap0_0_1 np0_0_1 cp0_0_1, .int .i64 xp0_1_2, .int .i64 xp0_2_3, .int .i64 xp0_3_4, .int .i64 xp0_4_5]⟩, .int .i64 xp1_6] h R :=
  callsH_of X0ok Try.func114 (by kernel_rfl) plan_laws_szTotal [.agg [.sl ap0_0_1 np0_0_1 cp0_0_1, .int .i64 xp0_1_2, .int .i64 xp0_2_3, .int .i64 xp0_3_4, .int .i64 xp0_4_5], .l (.int .i64 xp1_6)] (Eq.mpr (congrFun (congrFun (congrFun (congrFun (congrFun (congrFun (congrFun (congrFun (congrFun (congrFun tie_laws_szTotal ap0_0_1) np0_0_1) cp0_0_1) xp0_1_2) xp0_2_3) xp0_3_4) xp0_4_5) xp1_6) h) R) hm)
/- 180: laws.szLabelS -/
def M_laws_szLabelS (ap0_1 : Option Addr) (np0_1 cp0_1 : Nat) (xp1_2 : Int) (h : Heap) (R : Value → Heap → Prop) : Prop :=
  (((decide (((IntKind.i64.wrap (xp1_2 - ((np0_1 : Nat) : Int))) : Int) < 0)) = true →
    R (.int .i64 (-1)) h) ∧
  ((decide (((IntKind.i64.wrap (xp1_2 - ((np0_1 : Nat) : Int))) : Int) < 0)) = false →
    ∃ (I3 : List Value → Heap → Prop) (μ3 : List Value → Heap → Nat), I3 [.int .i64 (IntKind.i64.wrap (xp1_2 - ((np0_1 : Nat) : Int))), .int .i64 0] h ∧
    ∀ h3 : Heap, ∀ (x1_4 : Int), ∀ (x5_5 : Int), I3 [.int .i64 x1_4, .int .i64 x5_5] h3 →
      (((decide ((x5_5 : Int) < ((np0_1 : Nat) : Int))) = true →
        ∃ (b20_6 o20_6 : Nat), ap0_1 = some ⟨b20_6, o20_6, none⟩ ∧ (0 : Int) ≤ x5_5 ∧ (x5_5 : Int) < ((np0_1 : Nat) : Int) ∧
        ∃ (s21_0_7 : ByteArray), cellAt h3 b20_6 (o20_6 + (x5_5.toNat * 2)) = some (.string s21_0_7) ∧
        ∃ (s21_1_8 : ByteArray), cellAt h3 b20_6 (o20_6 + (x5_5.toNat * 2) + 1) = some (.string s21_1_8) ∧
        CallsH PP fn_laws_szLabel [.agg ⟨[.string s21_0_7, .string s21_1_8]⟩, .int .i64 x1_4] h3 fun (v9 : Value) (h9 : Heap) =>
        ∃ (x23_10 : Int), v9 = .int .i64 x23_10 ∧
        (((decide ((x23_10 : Int) < 0)) = true →
          R (.int .i64 (-1)) h9) ∧
        ((decide ((x23_10 : Int) < 0)) = false →
          I3 [.int .i64 x23_10, .int .i64 (IntKind.i64.wrap (x5_5 + 1))] h9 ∧ μ3 [.int .i64 x23_10, .int .i64 (IntKind.i64.wrap (x5_5 + 1))] h9 < μ3 [.int .i64 x1_4, .int .i64 x5_5] h3))) ∧
      ((decide ((x5_5 : Int) < ((np0_1 : Nat) : Int))) = false →
        R (.int .i64 x1_4) h3))))
def plan_laws_szLabelS : Plan := .seq none (.leaf) (.seq none (.leaf) (.seq none (.seq none (.leaf) (.cond (.seq none (.leaf) (.leaf)) (.leaf))) (.seq none (.seq none (.leaf) (.block (.loop [(1, .l (.int .i64)), (5, .l (.int .i64))] (.seq none (.seq none (.leaf) (.cond (.leaf) (.leaf))) (.seq none (.block (.seq none (.leaf) (.seq none (.leaf) (.cond (.seq none (.leaf) (.leaf)) (.leaf))))) (.leaf)))))) (.seq none (.leaf) (.leaf)))))
theorem tie_laws_szLabelS : (fun (ap0_1 : Option Addr) (np0_1 cp0_1 : Nat) (xp1_2 : Int) (h : Heap) (R : Value → Heap → Prop) => denF X0 Try.f180 (bodyOf Try.f180) plan_laws_szLabelS [.l (.sl ap0_1 np0_1 cp0_1), .l (.int .i64 xp1_2)] h R) = M_laws_szLabelS := by kernel_rfl
theorem calls_laws_szLabelS (ap0_1 : Option Addr) (np0_1 cp0_1 : Nat) (xp1_2 : Int) {h : Heap} {R : Value → Heap → Prop} (hm : M_laws_szLabelS ap0_1 np0_1 cp0_1 xp1_2 h R) : CallsH PP fn_laws_szLabelS [.slice ap0_1 np0_1 cp0_1, .int .i64 xp1_2] h R :=
  callsH_of X0ok Try.func180 (by kernel_rfl) plan_laws_szLabelS [.l (.sl ap0_1 np0_1 cp0_1), .l (.int .i64 xp1_2)] (Eq.mpr (congrFun (congrFun (congrFun (congrFun (congrFun (congrFun tie_laws_szLabelS ap0_1) np0_1) cp0_1) xp1_2) h) R) hm)
/- 221: laws.szLabel -/
def M_laws_szLabel (sp0_0_1 : ByteArray) (sp0_1_2 : ByteArray) (xp1_3 : Int) (h : Heap) (R : Value → Heap → Prop) : Prop :=
  ∀ h4 : Heap, h4 = newRowH h ty_laws_Label [.string sp0_0_1, .string sp0_1_2] →
  ∃ (s7_5 : ByteArray), cellAt h4 h.size 0 = some (.string s7_5) ∧
  (((decide (((IntKind.i64.wrap (xp1_3 - ((s7_5.size : Nat) : Int))) : Int) < 0)) = true →
    R (.int .i64 (-1)) h4) ∧
  ((decide (((IntKind.i64.wrap (xp1_3 - ((s7_5.size : Nat) : Int))) : Int) < 0)) = false →
    ∃ (s14_6 : ByteArray), cellAt h4 h.size 1 = some (.string s14_6) ∧
    (((decide (((IntKind.i64.wrap ((IntKind.i64.wrap (xp1_3 - ((s7_5.size : Nat) : Int))) - ((s14_6.size : Nat) : Int))) : Int) < 0)) = true →
      R (.int .i64 (-1)) h4) ∧
    ((decide (((IntKind.i64.wrap ((IntKind.i64.wrap (xp1_3 - ((s7_5.size : Nat) : Int))) - ((s14_6.size : Nat) : Int))) : Int) < 0)) = false →
      R (.int .i64 (IntKind.i64.wrap ((IntKind.i64.wrap (xp1_3 - ((s7_5.size : Nat) : Int))) - ((s14_6.size : Nat) : Int)))) h4))))
def plan_laws_szLabel : Plan := .seq none (.leaf) (.seq none (.leaf) (.seq none (.seq none (.leaf) (.cond (.seq none (.leaf) (.leaf)) (.leaf))) (.seq none (.leaf) (.seq none (.seq none (.leaf) (.cond (.seq none (.leaf) (.leaf)) (.leaf))) (.seq none (.leaf) (.leaf))))))
theorem tie_laws_szLabel : (fun (sp0_0_1 : ByteArray) (sp0_1_2 : ByteArray) (xp1_3 : Int) (h : Heap) (R : Value → Heap → Prop) => denF X0 Try.f221 (bodyOf Try.f221) plan_laws_szLabel [.agg [.str sp0_0_1, .str sp0_1_2], .l (.int .i64 xp1_3)] h R) = M_laws_szLabel := by kernel_rfl
theorem calls_laws_szLabel (sp0_0_1 : ByteArray) (sp0_1_2 : ByteArray) (xp1_3 : Int) {h : Heap} {R : Value → Heap → Prop} (hm : M_laws_szLabel sp0_0_1 sp0_1_2 xp1_3 h R) : CallsH PP fn_laws_szLabel [.agg ⟨[.string sp0_0_1, .string sp0_1_2]⟩, .int .i64 xp1_3] h R :=
  callsH_of X0ok Try.func221 (by kernel_rfl) plan_laws_szLabel [.agg [.str sp0_0_1, .str sp0_1_2], .l (.int .i64 xp1_3)] (Eq.mpr (congrFun (congrFun (congrFun (congrFun (congrFun tie_laws_szLabel sp0_0_1) sp0_1_2) xp1_3) h) R) hm)
/- 43: laws.toTotalS -/
def M_laws_toTotalS (ap0_1 : Option Addr) (np0_1 cp0_1 : Nat) (h : Heap) (R : Value → Heap → Prop) : Prop :=
  0 ≤ ((np0_1 : Nat) : Int) ∧ ((np0_1 : Nat) : Int) ≤ ((np0_1 : Nat) : Int) ∧ ((np0_1 : Nat) : Int) ≤ 1099511627776 ∧ ((56 : Nat) : Int) * ((np0_1 : Nat) : Int) ≤ 281474976710656 ∧
  ∀ h2 : Heap, h2 = newRowH h ty_impl_Total (repl [.slice none 0 0, .int .i64 0, .int .i64 0, .int .i64 0, .int .i64 0] np0_1) →
  ∃ (I3 : List Value → Heap → Prop) (μ3 : List Value → Heap → Nat), I3 [.int .i64 0] h2 ∧
  ∀ h3 : Heap, ∀ (x4_4 : Int), I3 [.int .i64 x4_4] h3 →
    (((decide ((x4_4 : Int) < ((np0_1 : Nat) : Int))) = true →
      ∃ (b18_5 o18_5 : Nat), ap0_1 = some ⟨b18_5, o18_5, none⟩ ∧ (0 : Int) ≤ x4_4 ∧ (x4_4 : Int) < ((np0_1 : Nat) : Int) ∧
      ∃ (a19_0_6 : Option Addr) (n19_0_6 c19_0_6 : Nat), cellAt h3 b18_5 (o18_5 + (x4_4.toNat * 5)) = some (.slice a19_0_6 n19_0_6 c19_0_6) ∧
      ∃ (x19_1_7 : Int), cellAt h3 b18_5 (o18_5 + (x4_4.toNat * 5) + 1) = some (.int .i64 x19_1_7) ∧
      ∃ (x19_2_8 : Int), cellAt h3 b18_5 (o18_5 + (x4_4.toNat * 5) + 2) = some (.int .i64 x19_2_8) ∧
      ∃ (x19_3_9 : Int), cellAt h3 b18_5 (o18_5 + (x4_4.toNat * 5) + 3) = some (.int .i64 x19_3_9) ∧
      ∃ (x19_4_10 : Int), cellAt h3 b18_5 (o18_5 + (x4_4.toNat * 5) + 4) = some (.int .i64 x19_4_10) ∧
      CallsH PP fn_laws_toTotal [.agg ⟨[.slice a19_0_6 n19_0_6 c19_0_6, .int .i64 x19_1_7, .int .i64 x19_2_8, .int .i64 x19_3_9, .int .i64 x19_4_10]⟩] h3 fun (v11 : Value) (h11 : Heap) =>
      ∃ (a20_0_12 : Option Addr) (n20_0_12 c20_0_12 : Nat) (x20_1_13 : Int) (x20_2_14 : Int) (x20_3_15 : Int) (x20_4_16 : Int), v11 = .agg ⟨[.slice a20_0_12 n20_0_12 c20_0_12, .int .i64 x20_1_13, .int .i64 x20_2_14, .int .i64 x20_3_15, .int .i64 x20_4_16]⟩ ∧
      (0 : Int) ≤ x4_4 ∧ (x4_4 : Int) < ((np0_1 : Nat) : Int) ∧
      ∃ (e17 : TypeId) (c17 : List Value), Row h11 h.size e17 c17 ∧ 0 + (x4_4.toNat * 5) + 5 ≤ c17.length ∧
      ∀ h18 : Heap, h18 = putRow h11 h.size e17 (splice c17 (0 + (x4_4.toNat * 5)) [.slice a20_0_12 n20_0_12 c20_0_12, .int .i64 x20_1_13, .int .i64 x20_2_14, .int .i64 x20_3_15, .int .i64 x20_4_16]) →
      I3 [.int .i64 (IntKind.i64.wrap (x4_4 + 1))] h18 ∧ μ3 [.int .i64 (IntKind.i64.wrap (x4_4 + 1))] h18 < μ3 [.int .i64 x4_4] h3) ∧
    ((decide ((x4_4 : Int) < ((np0_1 : Nat) : Int))) = false →
      R (.slice (some ⟨h.size, 0, none⟩) np0_1 np0_1) h3))
def plan_laws_toTotalS : Plan := .seq none (.leaf) (.seq none (.leaf) (.seq none (.seq none (.leaf) (.block (.loop [(4, .l (.int .i64))] (.seq none (.seq none (.leaf) (.cond (.leaf) (.leaf))) (.seq none (.block (.leaf)) (.leaf)))))) (.seq none (.leaf) (.leaf))))
theorem tie_laws_toTotalS : (fun (ap0_1 : Option Addr) (np0_1 cp0_1 : Nat) (h : Heap) (R : Value → Heap → Prop) => denF X0 Try.f43 (bodyOf Try.f43) plan_laws_toTotalS [.l (.sl ap0_1 np0_1 cp0_1)] h R) = M_laws_toTotalS := by kernel_rfl
theorem calls_laws_toTotalS (ap0_1 : Option Addr) (np0_1 cp0_1 : Nat) {h : Heap} {R : Value → Heap → Prop} (hm : M_laws_toTotalS ap0_1 np0_1 cp0_1 h R) : CallsH PP fn_laws_toTotalS [.slice ap0_1 np0_1 cp0_1] h R :=
  callsH_of X0ok Try.func43 (by kernel_rfl) plan_laws_toTotalS [.l (.sl ap0_1 np0_1 cp0_1)] (Eq.mpr (congrFun (congrFun (congrFun (congrFun (congrFun tie_laws_toTotalS ap0_1) np0_1) cp0_1) h) R) hm)
/- 117: laws.toTotal -/
def M_laws_toTotal (ap0_0_1 : Option Addr) (np0_0_1 cp0_0_1 : Nat) (xp0_1_2 : Int) (xp0_2_3 : Int) (xp0_3_4 : Int) (xp0_4_5 : Int) (h : Heap) (R : Value → Heap → Prop) : Prop :=
  ∀ h6 : Heap, h6 = newRowH h ty_laws_Total [.slice ap0_0_1 np0_0_1 cp0_0_1, .int .i64 xp0_1_2, .int .i64 xp0_2_3, .int .i64 xp0_3_4, .int .i64 xp0_4_5] →
  ∀ h7 : Heap, h7 = newRowH h6 ty_impl_Total [.slice none 0 0, .int .i64 0, .int .i64 0, .int .i64 0, .int .i64 0] →
  ∀ h8 : Heap, h8 = newRowH h7 ty_impl_Total [.slice none 0 0, .int .i64 0, .int .i64 0, .int .i64 0, .int .i64 0] →
  ∃ (a5_9 : Option Addr) (n5_9 c5_9 : Nat), cellAt h8 h.size 0 = some (.slice a5_9 n5_9 c5_9) ∧
  CallsH PP fn_laws_toLabelS [.slice a5_9 n5_9 c5_9] h8 fun (v10 : Value) (h10 : Heap) =>
  ∃ (a6_11 : Option Addr) (n6_11 c6_11 : Nat), v10 = .slice a6_11 n6_11 c6_11 ∧
  ∃ (e12 : TypeId) (c12 : List Value), Row h10 h7.size e12 c12 ∧ 0 < c12.length ∧
  ∀ h13 : Heap, h13 = putRow h10 h7.size e12 (c12.set 0 (.slice a6_11 n6_11 c6_11)) →
  ∃ (x9_14 : Int), cellAt h13 h.size 1 = some (.int .i64 x9_14) ∧
  ∃ (e15 : TypeId) (c15 : List Value), Row h13 h7.size e15 c15 ∧ 1 < c15.length ∧
  ∀ h16 : Heap, h16 = putRow h13 h7.size e15 (c15.set 1 (.int .i64 x9_14)) →
  ∃ (x12_17 : Int), cellAt h16 h.size 2 = some (.int .i64 x12_17) ∧
  ∃ (e18 : TypeId) (c18 : List Value), Row h16 h7.size e18 c18 ∧ 2 < c18.length ∧
  ∀ h19 : Heap, h19 = putRow h16 h7.size e18 (c18.set 2 (.int .i64 x12_17)) →
  ∃ (x15_20 : Int), cellAt h19 h.size 3 = some (.int .i64 x15_20) ∧
  ∃ (e21 : TypeId) (c21 : List Value), Row h19 h7.size e21 c21 ∧ 3 < c21.length ∧
  ∀ h22 : Heap, h22 = putRow h19 h7.size e21 (c21.set 3 (.int .i64 x15_20)) →
  ∃ (x18_23 : Int), cellAt h22 h.size 4 = some (.int .i64 x18_23) ∧
  ∃ (e24 : TypeId) (c24 : List Value), Row h22 h7.size e24 c24 ∧ 4 < c24.length ∧
  ∀ h25 : Heap, h25 = putRow h22 h7.size e24 (c24.set 4 (.int .i64 x18_23)) →
  ∃ (a20_0_26 : Option Addr) (n20_0_26 c20_0_26 : Nat), cellAt h25 h7.size 0 = some (.slice a20_0_26 n20_0_26 c20_0_26) ∧
  ∃ (x20_1_27 : Int), cellAt h25 h7.size 1 = some (.int .i64 x20_1_27) ∧
  ∃ (x20_2_28 : Int), cellAt h25 h7.size 2 = some (.int .i64 x20_2_28) ∧
  ∃ (x20_3_29 : Int), cellAt h25 h7.size 3 = some (.int .i64 x20_3_29) ∧
  ∃ (x20_4_30 : Int), cellAt h25 h7.size 4 = some (.int .i64 x20_4_30) ∧
  ∃ (e31 : TypeId) (c31 : List Value), Row h25 h6.size e31 c31 ∧ 0 + 5 ≤ c31.length ∧
  ∀ h32 : Heap, h32 = putRow h25 h6.size e31 (splice c31 0 [.slice a20_0_26 n20_0_26 c20_0_26, .int .i64 x20_1_27, .int .i64 x20_2_28, .int .i64 x20_3_29, .int .i64 x20_4_30]) →
  ∃ (ar0_0_33 : Option Addr) (nr0_0_33 cr0_0_33 : Nat), cellAt h32 h6.size 0 = some (.slice ar0_0_33 nr0_0_33 cr0_0_33) ∧
  ∃ (xr0_1_34 : Int), cellAt h32 h6.size 1 = some (.int .i64 xr0_1_34) ∧
  ∃ (xr0_2_35 : Int), cellAt h32 h6.size 2 = some (.int .i64 xr0_2_35) ∧
  ∃ (xr0_3_36 : Int), cellAt h32 h6.size 3 = some (.int .i64 xr0_3_36) ∧
  ∃ (xr0_4_37 : Int), cellAt h32 h6.size 4 = some (.int .i64 xr0_4_37) ∧
  R (.agg ⟨[.slice ar0_0_33 nr0_0_33 cr0_0_33, .int .i64 xr0_1_34, .int .i64 xr0_2_35, .int .i64 xr0_3_36, .int .i64 xr0_4_37]⟩) h32
def plan_laws_toTotal : Plan := .seq none (.leaf) (.seq none (.leaf) (.seq none (.leaf) (.seq none (.leaf) (.seq none (.leaf) (.seq none (.leaf) (.seq none (.leaf) (.seq none (.leaf) (.leaf))))))))
theorem tie_laws_toTotal : (fun (ap0_0_1 : Option Addr) (np0_0_1 cp0_0_1 : Nat) (xp0_1_2 : Int) (xp0_2_3 : Int) (xp0_3_4 : Int) (xp0_4_5 : Int) (h : Heap) (R : Value → Heap → Prop) => denF X0 Try.f117 (bodyOf Try.f117) plan_laws_toTotal [.agg [.sl ap0_0_1 np0_0_1 cp0_0_1, .int .i64 xp0_1_2, .int .i64 xp0_2_3, .int .i64 xp0_3_4, .int .i64 xp0_4_5]] h R) = M_laws_toTotal := by kernel_rfl
theorem calls_laws_toTotal (ap0_0_1 : Option Addr) (np0_0_1 cp0_0_1 : Nat) (xp0_1_2 : Int) (xp0_2_3 : Int) (xp0_3_4 : Int) (xp0_4_5 : Int) {h : Heap} {R : Value → Heap → Prop} (hm : M_laws_toTotal ap0_0_1 np0_0_1 cp0_0_1 xp0_1_2 xp0_2_3 xp0_3_4 xp0_4_5 h R) : CallsH PP fn_laws_toTotal [.agg ⟨[.slice ap0_0_1 np0_0_1 cp0_0_1, .int .i64 xp0_1_2, .int .i64 xp0_2_3, .int .i64 xp0_3_4, .int .i64 xp0_4_5]⟩] h R :=
  callsH_of X0ok Try.func117 (by kernel_rfl) plan_laws_toTotal [.agg [.sl ap0_0_1 np0_0_1 cp0_0_1, .int .i64 xp0_1_2, .int .i64 xp0_2_3, .int .i64 xp0_3_4, .int .i64 xp0_4_5]] (Eq.mpr (congrFun (congrFun (congrFun (congrFun (congrFun (congrFun (congrFun (congrFun (congrFun tie_laws_toTotal ap0_0_1) np0_0_1) cp0_0_1) xp0_1_2) xp0_2_3) xp0_3_4) xp0_4_5) h) R) hm)
/- 181: laws.toLabelS -/
def M_laws_toLabelS (ap0_1 : Option Addr) (np0_1 cp0_1 : Nat) (h : Heap) (R : Value → Heap → Prop) : Prop :=
  0 ≤ ((np0_1 : Nat) : Int) ∧ ((np0_1 : Nat) : Int) ≤ ((np0_1 : Nat) : Int) ∧ ((np0_1 : Nat) : Int) ≤ 1099511627776 ∧ ((32 : Nat) : Int) * ((np0_1 : Nat) : Int) ≤ 281474976710656 ∧
  ∀ h2 : Heap, h2 = newRowH h ty_impl_Label (repl [.string ByteArray.empty, .string ByteArray.empty] np0_1) →
  ∃ (I3 : List Value → Heap → Prop) (μ3 : List Value → Heap → Nat), I3 [.int .i64 0] h2 ∧
  ∀ h3 : Heap, ∀ (x4_4 : Int), I3 [.int .i64 x4_4] h3 →
    (((decide ((x4_4 : Int) < ((np0_1 : Nat) : Int))) = true →
      ∃ (b18_5 o18_5 : Nat), ap0_1 = some ⟨b18_5, o18_5, none⟩ ∧ (0 : Int) ≤ x4_4 ∧ (x4_4 : Int) < ((np0_1 : Nat) : Int) ∧
      ∃ (s19_0_6 : ByteArray), cellAt h3 b18_5 (o18_5 + (x4_4.toNat * 2)) = some (.string s19_0_6) ∧
      ∃ (s19_1_7 : ByteArray), cellAt h3 b18_5 (o18_5 + (x4_4.toNat * 2) + 1) = some (.string s19_1_7) ∧
      CallsH PP fn_laws_toLabel [.agg ⟨[.string s19_0_6, .string s19_1_7]⟩] h3 fun (v8 : Value) (h8 : Heap) =>
      ∃ (s20_0_9 : ByteArray) (s20_1_10 : ByteArray), v8 = .agg ⟨[.string s20_0_9, .string s20_1_10]⟩ ∧
      (0 : Int) ≤ x4_4 ∧ (x4_4 : Int) < ((np0_1 : Nat) : Int) ∧
      ∃ (e11 : TypeId) (c11 : List Value), Row h8 h.size e11 c11 ∧ 0 + (x4_4.toNat * 2) + 2 ≤ c11.length ∧
      ∀ h12 : Heap, h12 = putRow h8 h.size e11 (splice c11 (0 + (x4_4.toNat * 2)) [.string s20_0_9, .string s20_1_10]) →
      I3 [.int .i64 (IntKind.i64.wrap (x4_4 + 1))] h12 ∧ μ3 [.int .i64 (IntKind.i64.wrap (x4_4 + 1))] h12 < μ3 [.int .i64 x4_4] h3) ∧
    ((decide ((x4_4 : Int) < ((np0_1 : Nat) : Int))) = false →
      R (.slice (some ⟨h.size, 0, none⟩) np0_1 np0_1) h3))
def plan_laws_toLabelS : Plan := .seq none (.leaf) (.seq none (.leaf) (.seq none (.seq none (.leaf) (.block (.loop [(4, .l (.int .i64))] (.seq none (.seq none (.leaf) (.cond (.leaf) (.leaf))) (.seq none (.block (.leaf)) (.leaf)))))) (.seq none (.leaf) (.leaf))))
theorem tie_laws_toLabelS : (fun (ap0_1 : Option Addr) (np0_1 cp0_1 : Nat) (h : Heap) (R : Value → Heap → Prop) => denF X0 Try.f181 (bodyOf Try.f181) plan_laws_toLabelS [.l (.sl ap0_1 np0_1 cp0_1)] h R) = M_laws_toLabelS := by kernel_rfl
theorem calls_laws_toLabelS (ap0_1 : Option Addr) (np0_1 cp0_1 : Nat) {h : Heap} {R : Value → Heap → Prop} (hm : M_laws_toLabelS ap0_1 np0_1 cp0_1 h R) : CallsH PP fn_laws_toLabelS [.slice ap0_1 np0_1 cp0_1] h R :=
  callsH_of X0ok Try.func181 (by kernel_rfl) plan_laws_toLabelS [.l (.sl ap0_1 np0_1 cp0_1)] (Eq.mpr (congrFun (congrFun (congrFun (congrFun (congrFun tie_laws_toLabelS ap0_1) np0_1) cp0_1) h) R) hm)
/- 222: laws.toLabel -/
def M_laws_toLabel (sp0_0_1 : ByteArray) (sp0_1_2 : ByteArray) (h : Heap) (R : Value → Heap → Prop) : Prop :=
  ∀ h3 : Heap, h3 = newRowH h ty_laws_Label [.string sp0_0_1, .string sp0_1_2] →
  ∀ h4 : Heap, h4 = newRowH h3 ty_impl_Label [.string ByteArray.empty, .string ByteArray.empty] →
  ∀ h5 : Heap, h5 = newRowH h4 ty_impl_Label [.string ByteArray.empty, .string ByteArray.empty] →
  ∃ (s5_6 : ByteArray), cellAt h5 h.size 0 = some (.string s5_6) ∧
  ∃ (e7 : TypeId) (c7 : List Value), Row h5 h4.size e7 c7 ∧ 0 < c7.length ∧
  ∀ h8 : Heap, h8 = putRow h5 h4.size e7 (c7.set 0 (.string s5_6)) →
  ∃ (s8_9 : ByteArray), cellAt h8 h.size 1 = some (.string s8_9) ∧
  ∃ (e10 : TypeId) (c10 : List Value), Row h8 h4.size e10 c10 ∧ 1 < c10.length ∧
  ∀ h11 : Heap, h11 = putRow h8 h4.size e10 (c10.set 1 (.string s8_9)) →
  ∃ (s10_0_12 : ByteArray), cellAt h11 h4.size 0 = some (.string s10_0_12) ∧
  ∃ (s10_1_13 : ByteArray), cellAt h11 h4.size 1 = some (.string s10_1_13) ∧
  ∃ (e14 : TypeId) (c14 : List Value), Row h11 h3.size e14 c14 ∧ 0 + 2 ≤ c14.length ∧
  ∀ h15 : Heap, h15 = putRow h11 h3.size e14 (splice c14 0 [.string s10_0_12, .string s10_1_13]) →
  ∃ (sr0_0_16 : ByteArray), cellAt h15 h3.size 0 = some (.string sr0_0_16) ∧
  ∃ (sr0_1_17 : ByteArray), cellAt h15 h3.size 1 = some (.string sr0_1_17) ∧
  R (.agg ⟨[.string sr0_0_16, .string sr0_1_17]⟩) h15
def plan_laws_toLabel : Plan := .seq none (.leaf) (.seq none (.leaf) (.seq none (.leaf) (.seq none (.leaf) (.seq none (.leaf) (.leaf)))))
theorem tie_laws_toLabel : (fun (sp0_0_1 : ByteArray) (sp0_1_2 : ByteArray) (h : Heap) (R : Value → Heap → Prop) => denF X0 Try.f222 (bodyOf Try.f222) plan_laws_toLabel [.agg [.str sp0_0_1, .str sp0_1_2]] h R) = M_laws_toLabel := by kernel_rfl
theorem calls_laws_toLabel (sp0_0_1 : ByteArray) (sp0_1_2 : ByteArray) {h : Heap} {R : Value → Heap → Prop} (hm : M_laws_toLabel sp0_0_1 sp0_1_2 h R) : CallsH PP fn_laws_toLabel [.agg ⟨[.string sp0_0_1, .string sp0_1_2]⟩] h R :=
  callsH_of X0ok Try.func222 (by kernel_rfl) plan_laws_toLabel [.agg [.str sp0_0_1, .str sp0_1_2]] (Eq.mpr (congrFun (congrFun (congrFun (congrFun tie_laws_toLabel sp0_0_1) sp0_1_2) h) R) hm)
/- 45: laws.eqTotalS -/
def M_laws_eqTotalS (ap0_1 : Option Addr) (np0_1 cp0_1 : Nat) (ap1_2 : Option Addr) (np1_2 cp1_2 : Nat) (h : Heap) (R : Value → Heap → Prop) : Prop :=
  ((((((np0_1 : Nat) : Int) : Int) != ((np1_2 : Nat) : Int)) = true →
    R (.bool false) h) ∧
  (((((np0_1 : Nat) : Int) : Int) != ((np1_2 : Nat) : Int)) = false →
    ∃ (I3 : List Value → Heap → Prop) (μ3 : List Value → Heap → Nat), I3 [.int .i64 0] h ∧
    ∀ h3 : Heap, ∀ (x5_4 : Int), I3 [.int .i64 x5_4] h3 →
      (((decide ((x5_4 : Int) < ((np0_1 : Nat) : Int))) = true →
        ∃ (b19_5 o19_5 : Nat), ap0_1 = some ⟨b19_5, o19_5, none⟩ ∧ (0 : Int) ≤ x5_4 ∧ (x5_4 : Int) < ((np0_1 : Nat) : Int) ∧
        ∃ (a20_0_6 : Option Addr) (n20_0_6 c20_0_6 : Nat), cellAt h3 b19_5 (o19_5 + (x5_4.toNat * 5)) = some (.slice a20_0_6 n20_0_6 c20_0_6) ∧
        ∃ (x20_1_7 : Int), cellAt h3 b19_5 (o19_5 + (x5_4.toNat * 5) + 1) = some (.int .i64 x20_1_7) ∧
        ∃ (x20_2_8 : Int), cellAt h3 b19_5 (o19_5 + (x5_4.toNat * 5) + 2) = some (.int .i64 x20_2_8) ∧
        ∃ (x20_3_9 : Int), cellAt h3 b19_5 (o19_5 + (x5_4.toNat * 5) + 3) = some (.int .i64 x20_3_9) ∧
        ∃ (x20_4_10 : Int), cellAt h3 b19_5 (o19_5 + (x5_4.toNat * 5) + 4) = some (.int .i64 x20_4_10) ∧
        ∃ (b23_11 o23_11 : Nat), ap1_2 = some ⟨b23_11, o23_11, none⟩ ∧ (0 : Int) ≤ x5_4 ∧ (x5_4 : Int) < ((np1_2 : Nat) : Int) ∧
        ∃ (a24_0_12 : Option Addr) (n24_0_12 c24_0_12 : Nat), cellAt h3 b23_11 (o23_11 + (x5_4.toNat * 5)) = some (.slice a24_0_12 n24_0_12 c24_0_12) ∧
        ∃ (x24_1_13 : Int), cellAt h3 b23_11 (o23_11 + (x5_4.toNat * 5) + 1) = some (.int .i64 x24_1_13) ∧
        ∃ (x24_2_14 : Int), cellAt h3 b23_11 (o23_11 + (x5_4.toNat * 5) + 2) = some (.int .i64 x24_2_14) ∧
        ∃ (x24_3_15 : Int), cellAt h3 b23_11 (o23_11 + (x5_4.toNat * 5) + 3) = some (.int .i64 x24_3_15) ∧
        ∃ (x24_4_16 : Int), cellAt h3 b23_11 (o23_11 + (x5_4.toNat * 5) + 4) = some (.int .i64 x24_4_16) ∧
        CallsH PP fn_laws_eqTotal [.agg ⟨[.slice a20_0_6 n20_0_6 c20_0_6, .int .i64 x20_1_7, .int .i64 x20_2_8, .int .i64 x20_3_9, .int .i64 x20_4_10]⟩, .agg ⟨[.slice a24_0_12 n24_0_12 c24_0_12, .int .i64 x24_1_13, .int .i64 x24_2_14, .int .i64 x24_3_15, .int .i64 x24_4_16]⟩] h3 fun (v17 : Value) (h17 : Heap) =>
        ∃ (t25_18 : Bool), v17 = .bool t25_18 ∧
        (((!t25_18) = true →
          R (.bool false) h17) ∧
        ((!t25_18) = false →
          I3 [.int .i64 (IntKind.i64.wrap (x5_4 + 1))] h17 ∧ μ3 [.int .i64 (IntKind.i64.wrap (x5_4 + 1))] h17 < μ3 [.int .i64 x5_4] h3))) ∧
      ((decide ((x5_4 : Int) < ((np0_1 : Nat) : Int))) = false →
        R (.bool true) h3))))
def plan_laws_eqTotalS : Plan := .seq none (.leaf) (.seq none (.seq none (.leaf) (.cond (.seq none (.leaf) (.leaf)) (.leaf))) (.seq none (.seq none (.leaf) (.block (.loop [(5, .l (.int .i64))] (.seq none (.seq none (.leaf) (.cond (.leaf) (.leaf))) (.seq none (.block (.seq none (.draw (.op 0 (.op 1 (.op 2 (.op 3 (.op 4 (.op 5 (.op 6 (.op 7 (.op 8 (.op 9 .done))))))))))) (.cond (.seq none (.leaf) (.leaf)) (.leaf)))) (.leaf)))))) (.seq none (.leaf) (.leaf))))
theorem tie_laws_eqTotalS : (fun (ap0_1 : Option Addr) (np0_1 cp0_1 : Nat) (ap1_2 : Option Addr) (np1_2 cp1_2 : Nat) (h : Heap) (R : Value → Heap → Prop) => denF X0 Try.f45 (bodyOf Try.f45) plan_laws_eqTotalS [.l (.sl ap0_1 np0_1 cp0_1), .l (.sl ap1_2 np1_2 cp1_2)] h R) = M_laws_eqTotalS := by kernel_rfl
theorem calls_laws_eqTotalS (ap0_1 : Option Addr) (np0_1 cp0_1 : Nat) (ap1_2 : Option Addr) (np1_2 cp1_2 : Nat) {h : Heap} {R : Value → Heap → Prop} (hm : M_laws_eqTotalS ap0_1 np0_1 cp0_1 ap1_2 np1_2 cp1_2 h R) : CallsH PP fn_laws_eqTotalS [.slice ap0_1 np0_1 cp0_1, .slice ap1_2 np1_2 cp1_2] h R :=
  callsH_of X0ok Try.func45 (by kernel_rfl) plan_laws_eqTotalS [.l (.sl ap0_1 np0_1 cp0_1), .l (.sl ap1_2 np1_2 cp1_2)] (Eq.mpr (congrFun (congrFun (congrFun (congrFun (congrFun (congrFun (congrFun (congrFun tie_laws_eqTotalS ap0_1) np0_1) cp0_1) ap1_2) np1_2) cp1_2) h) R) hm)
/- 123: laws.eqTotal -/
def M_laws_eqTotal (ap0_0_1 : Option Addr) (np0_0_1 cp0_0_1 : Nat) (xp0_1_2 : Int) (xp0_2_3 : Int) (xp0_3_4 : Int) (xp0_4_5 : Int) (ap1_0_6 : Option Addr) (np1_0_6 cp1_0_6 : Nat) (xp1_1_7 : Int) (xp1_2_8 : Int) (xp1_3_9 : Int) (xp1_4_10 : Int) (h : Heap) (R : Value → Heap → Prop) : Prop :=
  ∀ h11 : Heap, h11 = newRowH h ty_impl_Total [.slice ap0_0_1 np0_0_1 cp0_0_1, .int .i64 xp0_1_2, .int .i64 xp0_2_3, .int .i64 xp0_3_4, .int .i64 xp0_4_5] →
  ∀ h12 : Heap, h12 = newRowH h11 ty_impl_Total [.slice ap1_0_6 np1_0_6 cp1_0_6, .int .i64 xp1_1_7, .int .i64 xp1_2_8, .int .i64 xp1_3_9, .int .i64 xp1_4_10] →
  ∃ (a6_13 : Option Addr) (n6_13 c6_13 : Nat), cellAt h12 h.size 0 = some (.slice a6_13 n6_13 c6_13) ∧
  ∃ (a8_14 : Option Addr) (n8_14 c8_14 : Nat), cellAt h12 h11.size 0 = some (.slice a8_14 n8_14 c8_14) ∧
  CallsH PP fn_laws_eqLabelS [.slice a6_13 n6_13 c6_13, .slice a8_14 n8_14 c8_14] h12 fun (v15 : Value) (h15 : Heap) =>
  ∃ (t9_16 : Bool), v15 = .bool t9_16 ∧
  (((!t9_16) = true →
    R (.bool false) h15) ∧
  ((!t9_16) = false →
    ∃ (x12_17 : Int), cellAt h15 h.size 1 = some (.int .i64 x12_17) ∧
    ∃ (x14_18 : Int), cellAt h15 h11.size 1 = some (.int .i64 x14_18) ∧
    ((((x12_17 : Int) != x14_18) = true →
      R (.bool false) h15) ∧
    (((x12_17 : Int) != x14_18) = false →
      ∃ (x17_19 : Int), cellAt h15 h.size 2 = some (.int .i64 x17_19) ∧
      ∃ (x19_20 : Int), cellAt h15 h11.size 2 = some (.int .i64 x19_20) ∧
      ((((x17_19 : Int) != x19_20) = true →
        R (.bool false) h15) ∧
      (((x17_19 : Int) != x19_20) = false →
        ∃ (x22_21 : Int), cellAt h15 h.size 3 = some (.int .i64 x22_21) ∧
        ∃ (x24_22 : Int), cellAt h15 h11.size 3 = some (.int .i64 x24_22) ∧
        ((((x22_21 : Int) != x24_22) = true →
          R (.bool false) h15) ∧
        (((x22_21 : Int) != x24_22) = false →
          ∃ (x27_23 : Int), cellAt h15 h.size 4 = some (.int .i64 x27_23) ∧
          ∃ (x29_24 : Int), cellAt h15 h11.size 4 = some (.int .i64 x29_24) ∧
          ((((x27_23 : Int) != x29_24) = true →
            R (.bool false) h15) ∧
          (((x27_23 : Int) != x29_24) = false →
            R (.bool true) h15))))))))))
def plan_laws_eqTotal : Plan := .seq none (.leaf) (.seq none (.seq none (.leaf) (.cond (.seq none (.leaf) (.leaf)) (.leaf))) (.seq none (.seq none (.leaf) (.cond (.seq none (.leaf) (.leaf)) (.leaf))) (.seq none (.seq none (.leaf) (.cond (.seq none (.leaf) (.leaf)) (.leaf))) (.seq none (.seq none (.leaf) (.cond (.seq none (.leaf) (.leaf)) (.leaf))) (.seq none (.seq none (.leaf) (.cond (.seq none (.leaf) (.leaf)) (.leaf))) (.seq none (.leaf) (.leaf)))))))
theorem tie_laws_eqTotal : (fun (ap0_0_1 : Option Addr) (np0_0_1 cp0_0_1 : Nat) (xp0_1_2 : Int) (xp0_2_3 : Int) (xp0_3_4 : Int) (xp0_4_5 : Int) (ap1_0_6 : Option Addr) (np1_0_6 cp1_0_6 : Nat) (xp1_1_7 : Int) (xp1_2_8 : Int) (xp1_3_9 : Int) (xp1_4_10 : Int) (h : Heap) (R : Value → Heap → Prop) => denF X0 Try.f123 (bodyOf Try.f123) plan_laws_eqTotal [.agg [.sl ap0_0_1 np0_0_1 cp0_0_1, .int .i64 xp0_1_2, .int .i64 xp0_2_3, .int .i64 xp0_3_4, .int .i64 xp0_4_5], .agg [.sl ap1_0_6 np1_0_6 cp1_0_6, .int .i64 xp1_1_7, .int .i64 xp1_2_8, .int .i64 xp1_3_9, .int .i64 xp1_4_10]] h R) = M_laws_eqTotal := by kernel_rfl
theorem calls_laws_eqTotal (ap0_0_1 : Option Addr) (np0_0_1 cp0_0_1 : Nat) (xp0_1_2 : Int) (xp0_2_3 : Int) (xp0_3_4 : Int) (xp0_4_5 : Int) (ap1_0_6 : Option Addr) (np1_0_6 cp1_0_6 : Nat) (xp1_1_7 : Int) (xp1_2_8 : Int) (xp1_3_9 : Int) (xp1_4_10 : Int) {h : Heap} {R : Value → Heap → Prop} (hm : M_laws_eqTotal ap0_0_1 np0_0_1 cp0_0_1 xp0_1_2 xp0_2_3 xp0_3_4 xp0_4_5 ap1_0_6 np1_0_6 cp1_0_6 xp1_1_7 xp1_2_8 xp1_3_9 xp1_4_10 h R) : CallsH PP fn_laws_eqTotal [.agg ⟨[.slice ap0_0_1 np0_0_1 cp0_0_1, .int .i64 xp0_1_2, .int .i64 xp0_2_3, .int .i64 xp0_3_4, .int .i64 xp0_4_5]⟩, .agg ⟨[.slice ap1_0_6 np1_0_6 cp1_0_6, .int .i64 xp1_1_7, .int .i64 xp1_2_8, .int .i64 xp1_3_9, .int .i64 xp1_4_10]⟩] h R :=
  callsH_of X0ok Try.func123 (by kernel_rfl) plan_laws_eqTotal [.agg [.sl ap0_0_1 np0_0_1 cp0_0_1, .int .i64 xp0_1_2, .int .i64 xp0_2_3, .int .i64 xp0_3_4, .int .i64 xp0_4_5], .agg [.sl ap1_0_6 np1_0_6 cp1_0_6, .int .i64 xp1_1_7, .int .i64 xp1_2_8, .int .i64 xp1_3_9, .int .i64 xp1_4_10]] (Eq.mpr (congrFun (congrFun (congrFun (congrFun (congrFun (congrFun (congrFun (congrFun (congrFun (congrFun (congrFun (congrFun (congrFun (congrFun (congrFun (congrFun tie_laws_eqTotal ap0_0_1) np0_0_1) cp0_0_1) xp0_1_2) xp0_2_3) xp0_3_4) xp0_4_5) ap1_0_6) np1_0_6) cp1_0_6) xp1_1_7) xp1_2_8) xp1_3_9) xp1_4_10) h) R) hm)
/- 185: laws.eqLabelS -/
def M_laws_eqLabelS (ap0_1 : Option Addr) (np0_1 cp0_1 : Nat) (ap1_2 : Option Addr) (np1_2 cp1_2 : Nat) (h : Heap) (R : Value → Heap → Prop) : Prop :=
  ((((((np0_1 : Nat) : Int) : Int) != ((np1_2 : Nat) : Int)) = true →
    R (.bool false) h) ∧
  (((((np0_1 : Nat) : Int) : Int) != ((np1_2 : Nat) : Int)) = false →
    ∃ (I3 : List Value → Heap → Prop) (μ3 : List Value → Heap → Nat), I3 [.int .i64 0] h ∧
    ∀ h3 : Heap, ∀ (x5_4 : Int), I3 [.int .i64 x5_4] h3 →
      (((decide ((x5_4 : Int) < ((np0_1 : Nat) : Int))) = true →
        ∃ (b19_5 o19_5 : Nat), ap0_1 = some ⟨b19_5, o19_5, none⟩ ∧ (0 : Int) ≤ x5_4 ∧ (x5_4 : Int) < ((np0_1 : Nat) : Int) ∧
        ∃ (s20_0_6 : ByteArray), cellAt h3 b19_5 (o19_5 + (x5_4.toNat * 2)) = some (.string s20_0_6) ∧
        ∃ (s20_1_7 : ByteArray), cellAt h3 b19_5 (o19_5 + (x5_4.toNat * 2) + 1) = some (.string s20_1_7) ∧
        ∃ (b23_8 o23_8 : Nat), ap1_2 = some ⟨b23_8, o23_8, none⟩ ∧ (0 : Int) ≤ x5_4 ∧ (x5_4 : Int) < ((np1_2 : Nat) : Int) ∧
        ∃ (s24_0_9 : ByteArray), cellAt h3 b23_8 (o23_8 + (x5_4.toNat * 2)) = some (.string s24_0_9) ∧
        ∃ (s24_1_10 : ByteArray), cellAt h3 b23_8 (o23_8 + (x5_4.toNat * 2) + 1) = some (.string s24_1_10) ∧
        CallsH PP fn_laws_eqLabel [.agg ⟨[.string s20_0_6, .string s20_1_7]⟩, .agg ⟨[.string s24_0_9, .string s24_1_10]⟩] h3 fun (v11 : Value) (h11 : Heap) =>
        ∃ (t25_12 : Bool), v11 = .bool t25_12 ∧
        (((!t25_12) = true →
          R (.bool false) h11) ∧
        ((!t25_12) = false →
          I3 [.int .i64 (IntKind.i64.wrap (x5_4 + 1))] h11 ∧ μ3 [.int .i64 (IntKind.i64.wrap (x5_4 + 1))] h11 < μ3 [.int .i64 x5_4] h3))) ∧
      ((decide ((x5_4 : Int) < ((np0_1 : Nat) : Int))) = false →
        R (.bool true) h3))))
def plan_laws_eqLabelS : Plan := .seq none (.leaf) (.seq none (.seq none (.leaf) (.cond (.seq none (.leaf) (.leaf)) (.leaf))) (.seq none (.seq none (.leaf) (.block (.loop [(5, .l (.int .i64))] (.seq none (.seq none (.leaf) (.cond (.leaf) (.leaf))) (.seq none (.block (.seq none (.draw (.op 0 (.op 1 (.op 2 (.op 3 (.op 4 (.op 5 (.op 6 (.op 7 (.op 8 (.op 9 .done))))))))))) (.cond (.seq none (.leaf) (.leaf)) (.leaf)))) (.leaf)))))) (.seq none (.leaf) (.leaf))))
theorem tie_laws_eqLabelS : (fun (ap0_1 : Option Addr) (np0_1 cp0_1 : Nat) (ap1_2 : Option Addr) (np1_2 cp1_2 : Nat) (h : Heap) (R : Value → Heap → Prop) => denF X0 Try.f185 (bodyOf Try.f185) plan_laws_eqLabelS [.l (.sl ap0_1 np0_1 cp0_1), .l (.sl ap1_2 np1_2 cp1_2)] h R) = M_laws_eqLabelS := by kernel_rfl
theorem calls_laws_eqLabelS (ap0_1 : Option Addr) (np0_1 cp0_1 : Nat) (ap1_2 : Option Addr) (np1_2 cp1_2 : Nat) {h : Heap} {R : Value → Heap → Prop} (hm : M_laws_eqLabelS ap0_1 np0_1 cp0_1 ap1_2 np1_2 cp1_2 h R) : CallsH PP fn_laws_eqLabelS [.slice ap0_1 np0_1 cp0_1, .slice ap1_2 np1_2 cp1_2] h R :=
  callsH_of X0ok Try.func185 (by kernel_rfl) plan_laws_eqLabelS [.l (.sl ap0_1 np0_1 cp0_1), .l (.sl ap1_2 np1_2 cp1_2)] (Eq.mpr (congrFun (congrFun (congrFun (congrFun (congrFun (congrFun (congrFun (congrFun tie_laws_eqLabelS ap0_1) np0_1) cp0_1) ap1_2) np1_2) cp1_2) h) R) hm)
/- 227: laws.eqLabel -/
def M_laws_eqLabel (sp0_0_1 : ByteArray) (sp0_1_2 : ByteArray) (sp1_0_3 : ByteArray) (sp1_1_4 : ByteArray) (h : Heap) (R : Value → Heap → Prop) : Prop :=
  ∀ h5 : Heap, h5 = newRowH h ty_impl_Label [.string sp0_0_1, .string sp0_1_2] →
  ∀ h6 : Heap, h6 = newRowH h5 ty_impl_Label [.string sp1_0_3, .string sp1_1_4] →
  ∃ (s6_7 : ByteArray), cellAt h6 h.size 0 = some (.string s6_7) ∧
  ∃ (s8_8 : ByteArray), cellAt h6 h5.size 0 = some (.string s8_8) ∧
  (((!((ByteArray.toList s6_7) == (ByteArray.toList s8_8))) = true →
    R (.bool false) h6) ∧
  ((!((ByteArray.toList s6_7) == (ByteArray.toList s8_8))) = false →
    ∃ (s11_9 : ByteArray), cellAt h6 h.size 1 = some (.string s11_9) ∧
    ∃ (s13_10 : ByteArray), cellAt h6 h5.size 1 = some (.string s13_10) ∧
    (((!((ByteArray.toList s11_9) == (ByteArray.toList s13_10))) = true →
      R (.bool false) h6) ∧
    ((!((ByteArray.toList s11_9) == (ByteArray.toList s13_10))) = false →
      R (.bool true) h6))))
def plan_laws_eqLabel : Plan := .seq none (.leaf) (.seq none (.seq none (.leaf) (.cond (.seq none (.leaf) (.leaf)) (.leaf))) (.seq none (.seq none (.leaf) (.cond (.seq none (.leaf) (.leaf)) (.leaf))) (.seq none (.leaf) (.leaf))))
theorem tie_laws_eqLabel : (fun (sp0_0_1 : ByteArray) (sp0_1_2 : ByteArray) (sp1_0_3 : ByteArray) (sp1_1_4 : ByteArray) (h : Heap) (R : Value → Heap → Prop) => denF X0 Try.f227 (bodyOf Try.f227) plan_laws_eqLabel [.agg [.str sp0_0_1, .str sp0_1_2], .agg [.str sp1_0_3, .str sp1_1_4]] h R) = M_laws_eqLabel := by kernel_rfl
theorem calls_laws_eqLabel (sp0_0_1 : ByteArray) (sp0_1_2 : ByteArray) (sp1_0_3 : ByteArray) (sp1_1_4 : ByteArray) {h : Heap} {R : Value → Heap → Prop} (hm : M_laws_eqLabel sp0_0_1 sp0_1_2 sp1_0_3 sp1_1_4 h R) : CallsH PP fn_laws_eqLabel [.agg ⟨[.string sp0_0_1, .string sp0_1_2]⟩, .agg ⟨[.string sp1_0_3, .string sp1_1_4]⟩] h R :=
  callsH_of X0ok Try.func227 (by kernel_rfl) plan_laws_eqLabel [.agg [.str sp0_0_1, .str sp0_1_2], .agg [.str sp1_0_3, .str sp1_1_4]] (Eq.mpr (congrFun (congrFun (congrFun (congrFun (congrFun (congrFun tie_laws_eqLabel sp0_0_1) sp0_1_2) sp1_0_3) sp1_1_4) h) R) hm)
/- 46: laws.markTotalS -/
def M_laws_markTotalS (ap0_1 : Option Addr) (np0_1 cp0_1 : Nat) (xp1_2 : Int) (h : Heap) (R : Value → Heap → Prop) : Prop :=
  ∃ (I3 : List Value → Heap → Prop) (μ3 : List Value → Heap → Nat), I3 [.int .i64 xp1_2, .int .i64 0] h ∧
  ∀ h3 : Heap, ∀ (x1_4 : Int), ∀ (x5_5 : Int), I3 [.int .i64 x1_4, .int .i64 x5_5] h3 →
    (((decide ((x5_5 : Int) < ((np0_1 : Nat) : Int))) = true →
      ∃ (b14_6 o14_6 : Nat), ap0_1 = some ⟨b14_6, o14_6, none⟩ ∧ (0 : Int) ≤ x5_5 ∧ (x5_5 : Int) < ((np0_1 : Nat) : Int) ∧
      ∃ (a16_7 : Option Addr) (n16_7 c16_7 : Nat), cellAt h3 b14_6 (o14_6 + (x5_5.toNat * 5)) = some (.slice a16_7 n16_7 c16_7) ∧
      CallsH PP fn_laws_markLabelS [.slice a16_7 n16_7 c16_7, .int .i64 x1_4] h3 fun (v8 : Value) (h8 : Heap) =>
      ∃ (x18_9 : Int), v8 = .int .i64 x18_9 ∧
      ∃ (b22_10 o22_10 : Nat), ap0_1 = some ⟨b22_10, o22_10, none⟩ ∧ (0 : Int) ≤ x5_5 ∧ (x5_5 : Int) < ((np0_1 : Nat) : Int) ∧
      ∃ (e11 : TypeId) (c11 : List Value), Row h8 b22_10 e11 c11 ∧ o22_10 + (x5_5.toNat * 5) + 1 < c11.length ∧
      ∀ h12 : Heap, h12 = putRow h8 b22_10 e11 (c11.set (o22_10 + (x5_5.toNat * 5) + 1) (.int .i64 x18_9)) →
      ∃ (b29_13 o29_13 : Nat), ap0_1 = some ⟨b29_13, o29_13, none⟩ ∧ (0 : Int) ≤ x5_5 ∧ (x5_5 : Int) < ((np0_1 : Nat) : Int) ∧
      ∃ (e14 : TypeId) (c14 : List Value), Row h12 b29_13 e14 c14 ∧ o29_13 + (x5_5.toNat * 5) + 2 < c14.length ∧
      ∀ h15 : Heap, h15 = putRow h12 b29_13 e14 (c14.set (o29_13 + (x5_5.toNat * 5) + 2) (.int .i64 (IntKind.i64.wrap (x18_9 + 1)))) →
      ∃ (b36_16 o36_16 : Nat), ap0_1 = some ⟨b36_16, o36_16, none⟩ ∧ (0 : Int) ≤ x5_5 ∧ (x5_5 : Int) < ((np0_1 : Nat) : Int) ∧
      ∃ (e17 : TypeId) (c17 : List Value), Row h15 b36_16 e17 c17 ∧ o36_16 + (x5_5.toNat * 5) + 3 < c17.length ∧
      ∀ h18 : Heap, h18 = putRow h15 b36_16 e17 (c17.set (o36_16 + (x5_5.toNat * 5) + 3) (.int .i64 (IntKind.i64.wrap ((IntKind.i64.wrap (x18_9 + 1)) + 1)))) →
      ∃ (b43_19 o43_19 : Nat), ap0_1 = some ⟨b43_19, o43_19, none⟩ ∧ (0 : Int) ≤ x5_5 ∧ (x5_5 : Int) < ((np0_1 : Nat) : Int) ∧
      ∃ (e20 : TypeId) (c20 : List Value), Row h18 b43_19 e20 c20 ∧ o43_19 + (x5_5.toNat * 5) + 4 < c20.length ∧
      ∀ h21 : Heap, h21 = putRow h18 b43_19 e20 (c20.set (o43_19 + (x5_5.toNat * 5) + 4) (.int .i64 (IntKind.i64.wrap ((IntKind.i64.wrap ((IntKind.i64.wrap (x18_9 + 1)) + 1)) + 1)))) →
      I3 [.int .i64 (IntKind.i64.wrap ((IntKind.i64.wrap ((IntKind.i64.wrap ((IntKind.i64.wrap (x18_9 + 1)) + 1)) + 1)) + 1)), .int .i64 (IntKind.i64.wrap (x5_5 + 1))] h21 ∧ μ3 [.int .i64 (IntKind.i64.wrap ((IntKind.i64.wrap ((IntKind.i64.wrap ((IntKind.i64.wrap (x18_9 + 1)) + 1)) + 1)) + 1)), .int .i64 (IntKind.i64.wrap (x5_5 + 1))] h21 < μ3 [.int .i64 x1_4, .int .i64 x5_5] h3) ∧
    ((decide ((x5_5 : Int) < ((np0_1 : Nat) : Int))) = false →
      R (.int .i64 x1_4) h3))
def plan_laws_markTotalS : Plan := .seq none (.leaf) (.seq none (.seq none (.leaf) (.block (.loop [(1, .l (.int .i64)), (5, .l (.int .i64))] (.seq none (.seq none (.leaf) (.cond (.leaf) (.leaf))) (.seq none (.block (.seq none (.leaf) (.seq none (.leaf) (.seq none (.leaf) (.seq none (.leaf) (.seq none (.leaf) (.seq none (.leaf) (.seq none (.leaf) (.seq none (.leaf) (.leaf)))))))))) (.leaf)))))) (.seq none (.leaf) (.leaf)))
theorem tie_laws_markTotalS : (fun (ap0_1 : Option Addr) (np0_1 cp0_1 : Nat) (xp1_2 : Int) (h : Heap) (R : Value → Heap → Prop) => denF X0 Try.f46 (bodyOf Try.f46) plan_laws_markTotalS [.l (.sl ap0_1 np0_1 cp0_1), .l (.int .i64 xp1_2)] h R) = M_laws_markTotalS := by kernel_rfl
theorem calls_laws_markTotalS (ap0_1 : Option Addr) (np0_1 cp0_1 : Nat) (xp1_2 : Int) {h : Heap} {R : Value → Heap → Prop} (hm : M_laws_markTotalS ap0_1 np0_1 cp0_1 xp1_2 h R) : CallsH PP fn_laws_markTotalS [.slice ap0_1 np0_1 cp0_1, .int .i64 xp1_2] h R :=
  callsH_of X0ok Try.func46 (by kernel_rfl) plan_laws_markTotalS [.l (.sl ap0_1 np0_1 cp0_1), .l (.int .i64 xp1_2)] (Eq.mpr (congrFun (congrFun (congrFun (congrFun (congrFun (congrFun tie_laws_markTotalS ap0_1) np0_1) cp0_1) xp1_2) h) R) hm)
/- 124: laws.markLabelS -/
def M_laws_markLabelS (ap0_1 : Option Addr) (np0_1 cp0_1 : Nat) (xp1_2 : Int) (h : Heap) (R : Value → Heap → Prop) : Prop :=
  ∃ (I3 : List Value → Heap → Prop) (μ3 : List Value → Heap → Nat), I3 [.int .i64 xp1_2, .int .i64 0] h ∧
  ∀ h3 : Heap, ∀ (x1_4 : Int), ∀ (x5_5 : Int), I3 [.int .i64 x1_4, .int .i64 x5_5] h3 →
    (((decide ((x5_5 : Int) < ((np0_1 : Nat) : Int))) = true →
      CallsH PP fn_laws_markText [.int .i64 x1_4] h3 fun (v6 : Value) (h6 : Heap) =>
      ∃ (s15_7 : ByteArray), v6 = .string s15_7 ∧
      ∃ (b16_8 o16_8 : Nat), ap0_1 = some ⟨b16_8, o16_8, none⟩ ∧ (0 : Int) ≤ x5_5 ∧ (x5_5 : Int) < ((np0_1 : Nat) : Int) ∧
      ∃ (e9 : TypeId) (c9 : List Value), Row h6 b16_8 e9 c9 ∧ o16_8 + (x5_5.toNat * 2) < c9.length ∧
      ∀ h10 : Heap, h10 = putRow h6 b16_8 e9 (c9.set (o16_8 + (x5_5.toNat * 2)) (.string s15_7)) →
      CallsH PP fn_laws_markText [.int .i64 (IntKind.i64.wrap (x1_4 + 1))] h10 fun (v11 : Value) (h11 : Heap) =>
      ∃ (s23_12 : ByteArray), v11 = .string s23_12 ∧
      ∃ (b24_13 o24_13 : Nat), ap0_1 = some ⟨b24_13, o24_13, none⟩ ∧ (0 : Int) ≤ x5_5 ∧ (x5_5 : Int) < ((np0_1 : Nat) : Int) ∧
      ∃ (e14 : TypeId) (c14 : List Value), Row h11 b24_13 e14 c14 ∧ o24_13 + (x5_5.toNat * 2) + 1 < c14.length ∧
      ∀ h15 : Heap, h15 = putRow h11 b24_13 e14 (c14.set (o24_13 + (x5_5.toNat * 2) + 1) (.string s23_12)) →
      I3 [.int .i64 (IntKind.i64.wrap ((IntKind.i64.wrap (x1_4 + 1)) + 1)), .int .i64 (IntKind.i64.wrap (x5_5 + 1))] h15 ∧ μ3 [.int .i64 (IntKind.i64.wrap ((IntKind.i64.wrap (x1_4 + 1)) + 1)), .int .i64 (IntKind.i64.wrap (x5_5 + 1))] h15 < μ3 [.int .i64 x1_4, .int .i64 x5_5] h3) ∧
    ((decide ((x5_5 : Int) < ((np0_1 : Nat) : Int))) = false →
      R (.int .i64 x1_4) h3))
def plan_laws_markLabelS : Plan := .seq none (.leaf) (.seq none (.seq none (.leaf) (.block (.loop [(1, .l (.int .i64)), (5, .l (.int .i64))] (.seq none (.seq none (.leaf) (.cond (.leaf) (.leaf))) (.seq none (.block (.seq none (.leaf) (.seq none (.leaf) (.seq none (.leaf) (.leaf))))) (.leaf)))))) (.seq none (.leaf) (.leaf)))
theorem tie_laws_markLabelS : (fun (ap0_1 : Option Addr) (np0_1 cp0_1 : Nat) (xp1_2 : Int) (h : Heap) (R : Value → Heap → Prop) => denF X0 Try.f124 (bodyOf Try.f124) plan_laws_markLabelS [.l (.sl ap0_1 np0_1 cp0_1), .l (.int .i64 xp1_2)] h R) = M_laws_markLabelS := by kernel_rfl
theorem calls_laws_markLabelS (ap0_1 : Option Addr) (np0_1 cp0_1 : Nat) (xp1_2 : Int) {h : Heap} {R : Value → Heap → Prop} (hm : M_laws_markLabelS ap0_1 np0_1 cp0_1 xp1_2 h R) : CallsH PP fn_laws_markLabelS [.slice ap0_1 np0_1 cp0_1, .int .i64 xp1_2] h R :=
  callsH_of X0ok Try.func124 (by kernel_rfl) plan_laws_markLabelS [.l (.sl ap0_1 np0_1 cp0_1), .l (.int .i64 xp1_2)] (Eq.mpr (congrFun (congrFun (congrFun (congrFun (congrFun (congrFun tie_laws_markLabelS ap0_1) np0_1) cp0_1) xp1_2) h) R) hm)
/- 42: spec.TopOf -/
def M_spec_TopOf (ap0_1 : Option Addr) (np0_1 cp0_1 : Nat) (xp1_2 : Int) (xp2_3 : Int) (h : Heap) (R : Value → Heap → Prop) : Prop :=
  CallsH PP fn_spec_GoodTotals [.slice ap0_1 np0_1 cp0_1] h fun (v4 : Value) (h4 : Heap) =>
  ∃ (t15_5 : Bool), v4 = .bool t15_5 ∧
  (((!t15_5) = false →
    CallsH PP fn_spec_l1In [.int .i64 xp1_2, .int .i64 1, .int .i64 4] h4 fun (v6 : Value) (h6 : Heap) =>
    ∃ (t19_7 : Bool), v6 = .bool t19_7 ∧
    (((!t19_7) = false →
      CallsH PP fn_spec_l1In [.int .i64 xp2_3, .int .i64 0, .int .i64 40] h6 fun (v8 : Value) (h8 : Heap) =>
      ∃ (t24_9 : Bool), v8 = .bool t24_9 ∧
      (((!t24_9) = true →
        R (.tuple ⟨[.slice none 0 0, .bool false]⟩) h8) ∧
      ((!t24_9) = false →
        CallsH PP fn_spec_l14Values [.slice ap0_1 np0_1 cp0_1, .int .i64 xp1_2] h8 fun (v10 : Value) (h10 : Heap) =>
        ∃ (a29_11 : Option Addr) (n29_11 c29_11 : Nat), v10 = .slice a29_11 n29_11 c29_11 ∧
        ∃ (I12 : List Value → Heap → Prop) (μ12 : List Value → Heap → Nat), I12 [.slice none 0 0, .int .i64 0] h10 ∧
        ∀ h12 : Heap, ∀ (a9_13 : Option Addr) (n9_13 c9_13 : Nat), ∀ (x32_14 : Int), I12 [.slice a9_13 n9_13 c9_13, .int .i64 x32_14] h12 →
          (((decide ((x32_14 : Int) < ((n29_11 : Nat) : Int))) = true →
            ∃ (b35_15 o35_15 : Nat), a29_11 = some ⟨b35_15, o35_15, none⟩ ∧ (0 : Int) ≤ x32_14 ∧ (x32_14 : Int) < ((n29_11 : Nat) : Int) ∧
            ∃ (x36_16 : Int), cellAt h12 b35_15 (o35_15 + x32_14.toNat) = some (.int .i64 x36_16) ∧
            ∀ (K17 : List Value → Heap → Prop), (∀ h17 : Heap, ∀ (x12_18 : Int), (
              ∀ h19 : Heap, h19 = newRowH h17 ty_int [] →
              (0 : Int) ≤ 0 ∧ (0 : Int) ≤ x12_18 ∧ x12_18 ≤ ((c9_13 : Nat) : Int) ∧
              appendH h19 ty_int 1 [.int .i64 0] (some ⟨h17.size, 0, none⟩) 0 0 a9_13 x12_18.toNat fun (a58_20 : Option Addr) (n58_20 c58_20 : Nat) (h20 : Heap) =>
              ∀ h21 : Heap, h21 = newRowH h20 ty_int [.int .i64 x32_14] →
              appendH h21 ty_int 1 [.int .i64 0] a58_20 n58_20 c58_20 (some ⟨h20.size, 0, none⟩) 1 fun (a62_22 : Option Addr) (n62_22 c62_22 : Nat) (h22 : Heap) =>
              (0 : Int) ≤ x12_18 ∧ (x12_18 : Int) ≤ ((n9_13 : Nat) : Int) ∧ ((n9_13 : Nat) : Int) ≤ ((c9_13 : Nat) : Int) ∧
              appendH h22 ty_int 1 [.int .i64 0] a62_22 n62_22 c62_22 (subA a9_13 c9_13 x12_18.toNat 1) (n9_13 - x12_18.toNat) fun (a67_23 : Option Addr) (n67_23 c67_23 : Nat) (h23 : Heap) =>
              I12 [.slice a67_23 n67_23 c67_23, .int .i64 (IntKind.i64.wrap (x32_14 + 1))] h23 ∧ μ12 [.slice a67_23 n67_23 c67_23, .int .i64 (IntKind.i64.wrap (x32_14 + 1))] h23 < μ12 [.slice a9_13 n9_13 c9_13, .int .i64 x32_14] h12) → K17 [.int .i64 x12_18] h17) →
            ∃ (I24 : List Value → Heap → Prop) (μ24 : List Value → Heap → Nat), I24 [.int .i64 0] h12 ∧
            ∀ h24 : Heap, ∀ (x12_25 : Int), I24 [.int .i64 x12_25] h24 →
              (((decide ((x12_25 : Int) < ((n9_13 : Nat) : Int))) = true →
                ∃ (b45_26 o45_26 : Nat), a9_13 = some ⟨b45_26, o45_26, none⟩ ∧ (0 : Int) ≤ x12_25 ∧ (x12_25 : Int) < ((n9_13 : Nat) : Int) ∧
                ∃ (x46_27 : Int), cellAt h24 b45_26 (o45_26 + x12_25.toNat) = some (.int .i64 x46_27) ∧
                ∃ (b47_28 o47_28 : Nat), a29_11 = some ⟨b47_28, o47_28, none⟩ ∧ (0 : Int) ≤ x46_27 ∧ (x46_27 : Int) < ((n29_11 : Nat) : Int) ∧
                ∃ (x48_29 : Int), cellAt h24 b47_28 (o47_28 + x46_27.toNat) = some (.int .i64 x48_29) ∧
                (((decide ((x48_29 : Int) ≥ x36_16)) = true →
                  I24 [.int .i64 (IntKind.i64.wrap (x12_25 + 1))] h24 ∧ μ24 [.int .i64 (IntKind.i64.wrap (x12_25 + 1))] h24 < μ24 [.int .i64 x12_25] h24) ∧
                ((decide ((x48_29 : Int) ≥ x36_16)) = false →
                  K17 [.int .i64 x12_25] h24))) ∧
              ((decide ((x12_25 : Int) < ((n9_13 : Nat) : Int))) = false →
                K17 [.int .i64 x12_25] h24))) ∧
          ((decide ((x32_14 : Int) < ((n29_11 : Nat) : Int))) = false →
            (((decide ((((n9_13 : Nat) : Int) : Int) > xp2_3)) = true →
              ∀ h30 : Heap, h30 = newRowH h12 ty_int [] →
              (0 : Int) ≤ 0 ∧ (0 : Int) ≤ xp2_3 ∧ xp2_3 ≤ ((c9_13 : Nat) : Int) ∧
              appendH h30 ty_int 1 [.int .i64 0] (some ⟨h12.size, 0, none⟩) 0 0 a9_13 xp2_3.toNat fun (a77_31 : Option Addr) (n77_31 c77_31 : Nat) (h31 : Heap) =>
              R (.tuple ⟨[.slice a77_31 n77_31 c77_31, .bool true]⟩) h31) ∧
            ((decide ((((n9_13 : Nat) : Int) : Int) > xp2_3)) = false →
              R (.tuple ⟨[.slice a9_13 n9_13 c9_13, .bool true]⟩) h12))))))) ∧
    ((!t19_7) = true →
      R (.tuple ⟨[.slice none 0 0, .bool false]⟩) h6))) ∧
  ((!t15_5) = true →
    R (.tuple ⟨[.slice none 0 0, .bool false]⟩) h4))
def plan_spec_TopOf : Plan := .seq none (.leaf) (.seq none (.seq none (.leaf) (.cond (.seq none (.leaf) (.leaf)) (.leaf))) (.seq none (.leaf) (.seq none (.leaf) (.seq none (.seq none (.leaf) (.block (.loop [(9, .l (.slice)), (32, .l (.int .i64))] (.seq none (.leaf) (.seq none (.cond (.leaf) (.leaf)) (.seq none (.block (.seq none (.leaf) (.seq none (.leaf) (.seq (some [(12, .l (.int .i64))]) (.block (.loop [(12, .l (.int .i64))] (.seq none (.seq none (.leaf) (.cond (.leaf) (.leaf))) (.block (.leaf))))) (.seq none (.leaf) (.seq none (.leaf) (.leaf))))))) (.leaf))))))) (.seq none (.seq none (.leaf) (.cond (.leaf) (.leaf))) (.seq none (.leaf) (.leaf)))))))
theorem tie_spec_TopOf : (fun (ap0_1 : Option Addr) (np0_1 cp0_1 : Nat) (xp1_2 : Int) (xp2_3 : Int) (h : Heap) (R : Value → Heap → Prop) => denF X0 Try.f42 (bodyOf Try.f42) plan_spec_TopOf [.l (.sl ap0_1 np0_1 cp0_1), .l (.int .i64 xp1_2), .l (.int .i64 xp2_3)] h R) = M_spec_TopOf := by kernel_rfl
theorem calls_spec_TopOf (ap0_1 : Option Addr) (np0_1 cp0_1 : Nat) (xp1_2 : Int) (xp2_3 : Int) {h : Heap} {R : Value → Heap → Prop} (hm : M_spec_TopOf ap0_1 np0_1 cp0_1 xp1_2 xp2_3 h R) : CallsH PP fn_spec_TopOf [.slice ap0_1 np0_1 cp0_1, .int .i64 xp1_2, .int .i64 xp2_3] h R :=
  callsH_of X0ok Try.func42 (by kernel_rfl) plan_spec_TopOf [.l (.sl ap0_1 np0_1 cp0_1), .l (.int .i64 xp1_2), .l (.int .i64 xp2_3)] (Eq.mpr (congrFun (congrFun (congrFun (congrFun (congrFun (congrFun (congrFun tie_spec_TopOf ap0_1) np0_1) cp0_1) xp1_2) xp2_3) h) R) hm)
/- 79: spec.GoodTotals -/
def M_spec_GoodTotals (ap0_1 : Option Addr) (np0_1 cp0_1 : Nat) (h : Heap) (R : Value → Heap → Prop) : Prop :=
  ∃ (I2 : List Value → Heap → Prop) (μ2 : List Value → Heap → Nat), I2 [.int .i64 0] h ∧
  ∀ h2 : Heap, ∀ (x7_3 : Int), I2 [.int .i64 x7_3] h2 →
    (((decide ((x7_3 : Int) < ((np0_1 : Nat) : Int))) = true →
      ∃ (b10_4 o10_4 : Nat), ap0_1 = some ⟨b10_4, o10_4, none⟩ ∧ (0 : Int) ≤ x7_3 ∧ (x7_3 : Int) < ((np0_1 : Nat) : Int) ∧
      ∃ (a11_0_5 : Option Addr) (n11_0_5 c11_0_5 : Nat), cellAt h2 b10_4 (o10_4 + (x7_3.toNat * 5)) = some (.slice a11_0_5 n11_0_5 c11_0_5) ∧
      ∃ (x11_1_6 : Int), cellAt h2 b10_4 (o10_4 + (x7_3.toNat * 5) + 1) = some (.int .i64 x11_1_6) ∧
      ∃ (x11_2_7 : Int), cellAt h2 b10_4 (o10_4 + (x7_3.toNat * 5) + 2) = some (.int .i64 x11_2_7) ∧
      ∃ (x11_3_8 : Int), cellAt h2 b10_4 (o10_4 + (x7_3.toNat * 5) + 3) = some (.int .i64 x11_3_8) ∧
      ∃ (x11_4_9 : Int), cellAt h2 b10_4 (o10_4 + (x7_3.toNat * 5) + 4) = some (.int .i64 x11_4_9) ∧
      ∀ h10 : Heap, h10 = newRowH h2 ty_impl_Total [.slice none 0 0, .int .i64 0, .int .i64 0, .int .i64 0, .int .i64 0] →
      ∃ (e11 : TypeId) (c11 : List Value), Row h10 h2.size e11 c11 ∧ 0 + 5 ≤ c11.length ∧
      ∀ h12 : Heap, h12 = putRow h10 h2.size e11 (splice c11 0 [.slice a11_0_5 n11_0_5 c11_0_5, .int .i64 x11_1_6, .int .i64 x11_2_7, .int .i64 x11_3_8, .int .i64 x11_4_9]) →
      ∃ (a13_13 : Option Addr) (n13_13 c13_13 : Nat), cellAt h12 h2.size 0 = some (.slice a13_13 n13_13 c13_13) ∧
      CallsH PP fn_spec_GoodLabels [.slice a13_13 n13_13 c13_13] h12 fun (v14 : Value) (h14 : Heap) =>
      ∃ (t14_15 : Bool), v14 = .bool t14_15 ∧
      (((!t14_15) = false →
        ∃ (x18_16 : Int), cellAt h14 h2.size 2 = some (.int .i64 x18_16) ∧
        CallsH PP fn_spec_l1In [.int .i64 x18_16, .int .i64 1, .int .i64 1000] h14 fun (v17 : Value) (h17 : Heap) =>
        ∃ (t19_18 : Bool), v17 = .bool t19_18 ∧
        (((!t19_18) = false →
          ∃ (x24_19 : Int), cellAt h17 h2.size 1 = some (.int .i64 x24_19) ∧
          CallsH PP fn_spec_l1In [.int .i64 x24_19, .int .i64 (-1000000000), .int .i64 1000000000] h17 fun (v20 : Value) (h20 : Heap) =>
          ∃ (t25_21 : Bool), v20 = .bool t25_21 ∧
          (((!t25_21) = false →
            ∃ (x30_22 : Int), cellAt h20 h2.size 3 = some (.int .i64 x30_22) ∧
            ∃ (x32_23 : Int), cellAt h20 h2.size 4 = some (.int .i64 x32_23) ∧
            CallsH PP fn_spec_l1In [.int .i64 x30_22, .int .i64 (-1000000), .int .i64 x32_23] h20 fun (v24 : Value) (h24 : Heap) =>
            ∃ (t33_25 : Bool), v24 = .bool t33_25 ∧
            (((!t33_25) = false →
              ∃ (x38_26 : Int), cellAt h24 h2.size 4 = some (.int .i64 x38_26) ∧
              (((decide ((x38_26 : Int) > 1000000)) = false →
                (((decide ((x7_3 : Int) > 0)) = true →
                  ∃ (b48_27 o48_27 : Nat), ap0_1 = some ⟨b48_27, o48_27, none⟩ ∧ (0 : Int) ≤ IntKind.i64.wrap (x7_3 - 1) ∧ (IntKind.i64.wrap (x7_3 - 1) : Int) < ((np0_1 : Nat) : Int) ∧
                  ∃ (a50_28 : Option Addr) (n50_28 c50_28 : Nat), cellAt h24 b48_27 (o48_27 + (((IntKind.i64.wrap (x7_3 - 1)).toNat) * 5)) = some (.slice a50_28 n50_28 c50_28) ∧
                  ∃ (a53_29 : Option Addr) (n53_29 c53_29 : Nat), cellAt h24 h2.size 0 = some (.slice a53_29 n53_29 c53_29) ∧
                  CallsH PP fn_spec_l3Text [.slice a50_28 n50_28 c50_28] h24 fun (v30 : Value) (h30 : Heap) =>
                  ∃ (s51_31 : ByteArray), v30 = .string s51_31 ∧
                  cellAt h30 h2.size 0 = some (.slice a53_29 n53_29 c53_29) ∧
                  cellAt h30 h2.size 4 = some (.int .i64 x38_26) ∧
                  CallsH PP fn_spec_l3Text [.slice a53_29 n53_29 c53_29] h30 fun (v32 : Value) (h32 : Heap) =>
                  ∃ (s54_33 : ByteArray), v32 = .string s54_33 ∧
                  cellAt h32 h2.size 4 = some (.int .i64 x38_26) ∧
                  (((!(Op.bytesLess (ByteArray.toList s51_31) (ByteArray.toList s54_33))) = true →
                    R (.bool false) h32) ∧
                  ((!(Op.bytesLess (ByteArray.toList s51_31) (ByteArray.toList s54_33))) = false →
                    I2 [.int .i64 (IntKind.i64.wrap (x7_3 + 1))] h32 ∧ μ2 [.int .i64 (IntKind.i64.wrap (x7_3 + 1))] h32 < μ2 [.int .i64 x7_3] h2))) ∧
                ((decide ((x7_3 : Int) > 0)) = false →
                  I2 [.int .i64 (IntKind.i64.wrap (x7_3 + 1))] h24 ∧ μ2 [.int .i64 (IntKind.i64.wrap (x7_3 + 1))] h24 < μ2 [.int .i64 x7_3] h2))) ∧
              ((decide ((x38_26 : Int) > 1000000)) = true →
                R (.bool false) h24))) ∧
            ((!t33_25) = true →
              R (.bool false) h24))) ∧
          ((!t25_21) = true →
            R (.bool false) h20))) ∧
        ((!t19_18) = true →
          R (.bool false) h17))) ∧
      ((!t14_15) = true →
        R (.bool false) h14))) ∧
    ((decide ((x7_3 : Int) < ((np0_1 : Nat) : Int))) = false →
      R (.bool (decide ((((np0_1 : Nat) : Int) : Int) ≤ 40))) h2))
def plan_spec_GoodTotals : Plan := .seq none (.leaf) (.seq none (.seq none (.leaf) (.block (.loop [(7, .l (.int .i64))] (.seq none (.leaf) (.seq none (.cond (.leaf) (.leaf)) (.seq none (.block (.seq none (.leaf) (.seq none (.draw (.op 0 (.op 1 (.op 2 (.op 3 (.op 4 (.op 5 (.op 6 (.op 7 (.op 8 (.op 9 (.op 10 (.op 11 (.op 12 (.op 13 (.op 14 (.op 15 (.op 16 (.op 17 (.op 18 (.op 19 (.op 20 (.op 21 (.op 22 (.op 23 (.op 24 (.op 25 (.op 26 (.op 27 (.op 28 (.op 29 (.op 30 (.op 31 (.op 32 (.op 33 (.op 34 (.op 35 (.op 36 (.op 37 (.op 38 (.op 40 (.op 41 (.op 39 (.op 42 (.op 43 (.op 44 (.op 45 .done))))))))))))))))))))))))))))))))))))))))))))))) (.cond (.seq none (.leaf) (.leaf)) (.leaf))))) (.leaf))))))) (.seq none (.leaf) (.leaf)))
theorem tie_spec_GoodTotals : (fun (ap0_1 : Option Addr) (np0_1 cp0_1 : Nat) (h : Heap) (R : Value → Heap → Prop) => denF X0 Try.f79 (bodyOf Try.f79) plan_spec_GoodTotals [.l (.sl ap0_1 np0_1 cp0_1)] h R) = M_spec_GoodTotals := by kernel_rfl
theorem calls_spec_GoodTotals (ap0_1 : Option Addr) (np0_1 cp0_1 : Nat) {h : Heap} {R : Value → Heap → Prop} (hm : M_spec_GoodTotals ap0_1 np0_1 cp0_1 h R) : CallsH PP fn_spec_GoodTotals [.slice ap0_1 np0_1 cp0_1] h R :=
  callsH_of X0ok Try.func79 (by kernel_rfl) plan_spec_GoodTotals [.l (.sl ap0_1 np0_1 cp0_1)] (Eq.mpr (congrFun (congrFun (congrFun (congrFun (congrFun tie_spec_GoodTotals ap0_1) np0_1) cp0_1) h) R) hm)
/- 155: spec.GoodLabels -/
def M_spec_GoodLabels (ap0_1 : Option Addr) (np0_1 cp0_1 : Nat) (h : Heap) (R : Value → Heap → Prop) : Prop :=
  ∃ (I2 : List Value → Heap → Prop) (μ2 : List Value → Heap → Nat), I2 [.int .i64 0] h ∧
  ∀ h2 : Heap, ∀ (x7_3 : Int), I2 [.int .i64 x7_3] h2 →
    (((decide ((x7_3 : Int) < ((np0_1 : Nat) : Int))) = true →
      ∃ (b10_4 o10_4 : Nat), ap0_1 = some ⟨b10_4, o10_4, none⟩ ∧ (0 : Int) ≤ x7_3 ∧ (x7_3 : Int) < ((np0_1 : Nat) : Int) ∧
      ∃ (s11_0_5 : ByteArray), cellAt h2 b10_4 (o10_4 + (x7_3.toNat * 2)) = some (.string s11_0_5) ∧
      ∃ (s11_1_6 : ByteArray), cellAt h2 b10_4 (o10_4 + (x7_3.toNat * 2) + 1) = some (.string s11_1_6) ∧
      ∀ h7 : Heap, h7 = newRowH h2 ty_impl_Label [.string ByteArray.empty, .string ByteArray.empty] →
      ∃ (e8 : TypeId) (c8 : List Value), Row h7 h2.size e8 c8 ∧ 0 + 2 ≤ c8.length ∧
      ∀ h9 : Heap, h9 = putRow h7 h2.size e8 (splice c8 0 [.string s11_0_5, .string s11_1_6]) →
      ∃ (s13_10 : ByteArray), cellAt h9 h2.size 0 = some (.string s13_10) ∧
      CallsH PP fn_spec_l3Name [.string s13_10, .bool false] h9 fun (v11 : Value) (h11 : Heap) =>
      ∃ (t14_12 : Bool), v11 = .bool t14_12 ∧
      (((!t14_12) = false →
        ∃ (s18_13 : ByteArray), cellAt h11 h2.size 1 = some (.string s18_13) ∧
        CallsH PP fn_spec_l3Name [.string s18_13, .bool true] h11 fun (v14 : Value) (h14 : Heap) =>
        ∃ (t19_15 : Bool), v14 = .bool t19_15 ∧
        (((!t19_15) = false →
          (((decide ((x7_3 : Int) > 0)) = true →
            ∃ (b29_16 o29_16 : Nat), ap0_1 = some ⟨b29_16, o29_16, none⟩ ∧ (0 : Int) ≤ IntKind.i64.wrap (x7_3 - 1) ∧ (IntKind.i64.wrap (x7_3 - 1) : Int) < ((np0_1 : Nat) : Int) ∧
            ∃ (s31_17 : ByteArray), cellAt h14 b29_16 (o29_16 + (((IntKind.i64.wrap (x7_3 - 1)).toNat) * 2)) = some (.string s31_17) ∧
            ∃ (s33_18 : ByteArray), cellAt h14 h2.size 0 = some (.string s33_18) ∧
            (((!(Op.bytesLess (ByteArray.toList s31_17) (ByteArray.toList s33_18))) = true →
              R (.bool false) h14) ∧
            ((!(Op.bytesLess (ByteArray.toList s31_17) (ByteArray.toList s33_18))) = false →
              I2 [.int .i64 (IntKind.i64.wrap (x7_3 + 1))] h14 ∧ μ2 [.int .i64 (IntKind.i64.wrap (x7_3 + 1))] h14 < μ2 [.int .i64 x7_3] h2))) ∧
          ((decide ((x7_3 : Int) > 0)) = false →
            I2 [.int .i64 (IntKind.i64.wrap (x7_3 + 1))] h14 ∧ μ2 [.int .i64 (IntKind.i64.wrap (x7_3 + 1))] h14 < μ2 [.int .i64 x7_3] h2))) ∧
        ((!t19_15) = true →
          R (.bool false) h14))) ∧
      ((!t14_12) = true →
        R (.bool false) h11))) ∧
    ((decide ((x7_3 : Int) < ((np0_1 : Nat) : Int))) = false →
      R (.bool (decide ((((np0_1 : Nat) : Int) : Int) ≤ 6))) h2))
def plan_spec_GoodLabels : Plan := .seq none (.leaf) (.seq none (.seq none (.leaf) (.block (.loop [(7, .l (.int .i64))] (.seq none (.leaf) (.seq none (.cond (.leaf) (.leaf)) (.seq none (.block (.seq none (.leaf) (.seq none (.draw (.op 0 (.op 1 (.op 2 (.op 3 (.op 4 (.op 5 (.op 6 (.op 7 (.op 8 (.op 9 (.op 10 (.op 11 (.op 12 (.op 13 (.op 14 (.op 15 (.op 16 (.op 17 (.op 18 (.op 19 (.op 20 (.op 21 (.op 22 (.op 23 (.op 24 .done)))))))))))))))))))))))))) (.cond (.seq none (.leaf) (.leaf)) (.leaf))))) (.leaf))))))) (.seq none (.leaf) (.leaf)))
theorem tie_spec_GoodLabels : (fun (ap0_1 : Option Addr) (np0_1 cp0_1 : Nat) (h : Heap) (R : Value → Heap → Prop) => denF X0 Try.f155 (bodyOf Try.f155) plan_spec_GoodLabels [.l (.sl ap0_1 np0_1 cp0_1)] h R) = M_spec_GoodLabels := by kernel_rfl
theorem calls_spec_GoodLabels (ap0_1 : Option Addr) (np0_1 cp0_1 : Nat) {h : Heap} {R : Value → Heap → Prop} (hm : M_spec_GoodLabels ap0_1 np0_1 cp0_1 h R) : CallsH PP fn_spec_GoodLabels [.slice ap0_1 np0_1 cp0_1] h R :=
  callsH_of X0ok Try.func155 (by kernel_rfl) plan_spec_GoodLabels [.l (.sl ap0_1 np0_1 cp0_1)] (Eq.mpr (congrFun (congrFun (congrFun (congrFun (congrFun tie_spec_GoodLabels ap0_1) np0_1) cp0_1) h) R) hm)
/- 156: spec.l3Text -/
def M_spec_l3Text (ap0_1 : Option Addr) (np0_1 cp0_1 : Nat) (h : Heap) (R : Value → Heap → Prop) : Prop :=
  ∃ (I2 : List Value → Heap → Prop) (μ2 : List Value → Heap → Nat), I2 [.string (⟨⟨[123]⟩⟩ : ByteArray), .int .i64 0] h ∧
  ∀ h2 : Heap, ∀ (s3_3 : ByteArray), ∀ (x8_4 : Int), I2 [.string s3_3, .int .i64 x8_4] h2 →
    (((decide ((x8_4 : Int) < ((np0_1 : Nat) : Int))) = true →
      ∃ (b11_5 o11_5 : Nat), ap0_1 = some ⟨b11_5, o11_5, none⟩ ∧ (0 : Int) ≤ x8_4 ∧ (x8_4 : Int) < ((np0_1 : Nat) : Int) ∧
      ∃ (s12_0_6 : ByteArray), cellAt h2 b11_5 (o11_5 + (x8_4.toNat * 2)) = some (.string s12_0_6) ∧
      ∃ (s12_1_7 : ByteArray), cellAt h2 b11_5 (o11_5 + (x8_4.toNat * 2) + 1) = some (.string s12_1_7) ∧
      ∀ h8 : Heap, h8 = newRowH h2 ty_impl_Label [.string ByteArray.empty, .string ByteArray.empty] →
      ∃ (e9 : TypeId) (c9 : List Value), Row h8 h2.size e9 c9 ∧ 0 + 2 ≤ c9.length ∧
      ∀ h10 : Heap, h10 = putRow h8 h2.size e9 (splice c9 0 [.string s12_0_6, .string s12_1_7]) →
      ∀ (K11 : List Value → Heap → Prop), (∀ h11 : Heap, ∀ (s3_12 : ByteArray), (
        ∃ (s19_13 : ByteArray), cellAt h11 h2.size 0 = some (.string s19_13) ∧
        ByteArray.size s19_13 + ByteArray.size (⟨⟨[61]⟩⟩ : ByteArray) ≤ 9223372036854775807 ∧
        ∃ (s22_14 : ByteArray), cellAt h11 h2.size 1 = some (.string s22_14) ∧
        ByteArray.size (s19_13 ++ (⟨⟨[61]⟩⟩ : ByteArray)) + ByteArray.size s22_14 ≤ 9223372036854775807 ∧
        ByteArray.size s3_12 + ByteArray.size ((s19_13 ++ (⟨⟨[61]⟩⟩ : ByteArray)) ++ s22_14) ≤ 9223372036854775807 ∧
        I2 [.string (s3_12 ++ ((s19_13 ++ (⟨⟨[61]⟩⟩ : ByteArray)) ++ s22_14)), .int .i64 (IntKind.i64.wrap (x8_4 + 1))] h11 ∧ μ2 [.string (s3_12 ++ ((s19_13 ++ (⟨⟨[61]⟩⟩ : ByteArray)) ++ s22_14)), .int .i64 (IntKind.i64.wrap (x8_4 + 1))] h11 < μ2 [.string s3_3, .int .i64 x8_4] h2) → K11 [.string s3_12] h11) →
      (((decide ((x8_4 : Int) > 0)) = true →
        ByteArray.size s3_3 + ByteArray.size (⟨⟨[44]⟩⟩ : ByteArray) ≤ 9223372036854775807 ∧
        K11 [.string (s3_3 ++ (⟨⟨[44]⟩⟩ : ByteArray))] h10) ∧
      ((decide ((x8_4 : Int) > 0)) = false →
        K11 [.string s3_3] h10))) ∧
    ((decide ((x8_4 : Int) < ((np0_1 : Nat) : Int))) = false →
      ByteArray.size s3_3 + ByteArray.size (⟨⟨[125]⟩⟩ : ByteArray) ≤ 9223372036854775807 ∧
      R (.string (s3_3 ++ (⟨⟨[125]⟩⟩ : ByteArray))) h2))
def plan_spec_l3Text : Plan := .seq none (.leaf) (.seq none (.leaf) (.seq none (.seq none (.leaf) (.block (.loop [(3, .l (.str)), (8, .l (.int .i64))] (.seq none (.leaf) (.seq none (.cond (.leaf) (.leaf)) (.seq none (.block (.seq none (.leaf) (.seq (some [(3, .l (.str))]) (.seq none (.leaf) (.cond (.leaf) (.leaf))) (.leaf)))) (.leaf))))))) (.seq none (.leaf) (.leaf))))
theorem tie_spec_l3Text : (fun (ap0_1 : Option Addr) (np0_1 cp0_1 : Nat) (h : Heap) (R : Value → Heap → Prop) => denF X0 Try.f156 (bodyOf Try.f156) plan_spec_l3Text [.l (.sl ap0_1 np0_1 cp0_1)] h R) = M_spec_l3Text := by kernel_rfl
theorem calls_spec_l3Text (ap0_1 : Option Addr) (np0_1 cp0_1 : Nat) {h : Heap} {R : Value → Heap → Prop} (hm : M_spec_l3Text ap0_1 np0_1 cp0_1 h R) : CallsH PP fn_spec_l3Text [.slice ap0_1 np0_1 cp0_1] h R :=
  callsH_of X0ok Try.func156 (by kernel_rfl) plan_spec_l3Text [.l (.sl ap0_1 np0_1 cp0_1)] (Eq.mpr (congrFun (congrFun (congrFun (congrFun (congrFun tie_spec_l3Text ap0_1) np0_1) cp0_1) h) R) hm)
/- 116: spec.l14Values -/
def M_spec_l14Values (ap0_1 : Option Addr) (np0_1 cp0_1 : Nat) (xp1_2 : Int) (h : Heap) (R : Value → Heap → Prop) : Prop :=
  ∃ (I3 : List Value → Heap → Prop) (μ3 : List Value → Heap → Nat), I3 [.slice none 0 0, .int .i64 0] h ∧
  ∀ h3 : Heap, ∀ (a5_4 : Option Addr) (n5_4 c5_4 : Nat), ∀ (x11_5 : Int), I3 [.slice a5_4 n5_4 c5_4, .int .i64 x11_5] h3 →
    (((decide ((x11_5 : Int) < ((np0_1 : Nat) : Int))) = true →
      ∃ (b13_6 o13_6 : Nat), ap0_1 = some ⟨b13_6, o13_6, none⟩ ∧ (0 : Int) ≤ x11_5 ∧ (x11_5 : Int) < ((np0_1 : Nat) : Int) ∧
      ∃ (a14_0_7 : Option Addr) (n14_0_7 c14_0_7 : Nat), cellAt h3 b13_6 (o13_6 + (x11_5.toNat * 5)) = some (.slice a14_0_7 n14_0_7 c14_0_7) ∧
      ∃ (x14_1_8 : Int), cellAt h3 b13_6 (o13_6 + (x11_5.toNat * 5) + 1) = some (.int .i64 x14_1_8) ∧
      ∃ (x14_2_9 : Int), cellAt h3 b13_6 (o13_6 + (x11_5.toNat * 5) + 2) = some (.int .i64 x14_2_9) ∧
      ∃ (x14_3_10 : Int), cellAt h3 b13_6 (o13_6 + (x11_5.toNat * 5) + 3) = some (.int .i64 x14_3_10) ∧
      ∃ (x14_4_11 : Int), cellAt h3 b13_6 (o13_6 + (x11_5.toNat * 5) + 4) = some (.int .i64 x14_4_11) ∧
      ∀ h12 : Heap, h12 = newRowH h3 ty_impl_Total [.slice none 0 0, .int .i64 0, .int .i64 0, .int .i64 0, .int .i64 0] →
      ∃ (e13 : TypeId) (c13 : List Value), Row h12 h3.size e13 c13 ∧ 0 + 5 ≤ c13.length ∧
      ∀ h14 : Heap, h14 = putRow h12 h3.size e13 (splice c13 0 [.slice a14_0_7 n14_0_7 c14_0_7, .int .i64 x14_1_8, .int .i64 x14_2_9, .int .i64 x14_3_10, .int .i64 x14_4_11]) →
      ∃ (x16_15 : Int), cellAt h14 h3.size 1 = some (.int .i64 x16_15) ∧
      ((((xp1_2 : Int) == 2) = true →
        ∃ (x21_16 : Int), cellAt h14 h3.size 2 = some (.int .i64 x21_16) ∧
        ∀ h17 : Heap, h17 = newRowH h14 ty_int [.int .i64 x21_16] →
        appendH h17 ty_int 1 [.int .i64 0] a5_4 n5_4 c5_4 (some ⟨h14.size, 0, none⟩) 1 fun (a33_18 : Option Addr) (n33_18 c33_18 : Nat) (h18 : Heap) =>
        I3 [.slice a33_18 n33_18 c33_18, .int .i64 (IntKind.i64.wrap (x11_5 + 1))] h18 ∧ μ3 [.slice a33_18 n33_18 c33_18, .int .i64 (IntKind.i64.wrap (x11_5 + 1))] h18 < μ3 [.slice a5_4 n5_4 c5_4, .int .i64 x11_5] h3) ∧
      (((xp1_2 : Int) == 2) = false →
        ((((xp1_2 : Int) == 3) = true →
          ∃ (x25_19 : Int), cellAt h14 h3.size 3 = some (.int .i64 x25_19) ∧
          ∀ h20 : Heap, h20 = newRowH h14 ty_int [.int .i64 x25_19] →
          appendH h20 ty_int 1 [.int .i64 0] a5_4 n5_4 c5_4 (some ⟨h14.size, 0, none⟩) 1 fun (a33_21 : Option Addr) (n33_21 c33_21 : Nat) (h21 : Heap) =>
          I3 [.slice a33_21 n33_21 c33_21, .int .i64 (IntKind.i64.wrap (x11_5 + 1))] h21 ∧ μ3 [.slice a33_21 n33_21 c33_21, .int .i64 (IntKind.i64.wrap (x11_5 + 1))] h21 < μ3 [.slice a5_4 n5_4 c5_4, .int .i64 x11_5] h3) ∧
        (((xp1_2 : Int) == 3) = false →
          ((((xp1_2 : Int) == 4) = true →
            ∃ (x29_22 : Int), cellAt h14 h3.size 4 = some (.int .i64 x29_22) ∧
            ∀ h23 : Heap, h23 = newRowH h14 ty_int [.int .i64 x29_22] →
            appendH h23 ty_int 1 [.int .i64 0] a5_4 n5_4 c5_4 (some ⟨h14.size, 0, none⟩) 1 fun (a33_24 : Option Addr) (n33_24 c33_24 : Nat) (h24 : Heap) =>
            I3 [.slice a33_24 n33_24 c33_24, .int .i64 (IntKind.i64.wrap (x11_5 + 1))] h24 ∧ μ3 [.slice a33_24 n33_24 c33_24, .int .i64 (IntKind.i64.wrap (x11_5 + 1))] h24 < μ3 [.slice a5_4 n5_4 c5_4, .int .i64 x11_5] h3) ∧
          (((xp1_2 : Int) == 4) = false →
            ∀ h25 : Heap, h25 = newRowH h14 ty_int [.int .i64 x16_15] →
            appendH h25 ty_int 1 [.int .i64 0] a5_4 n5_4 c5_4 (some ⟨h14.size, 0, none⟩) 1 fun (a33_26 : Option Addr) (n33_26 c33_26 : Nat) (h26 : Heap) =>
            I3 [.slice a33_26 n33_26 c33_26, .int .i64 (IntKind.i64.wrap (x11_5 + 1))] h26 ∧ μ3 [.slice a33_26 n33_26 c33_26, .int .i64 (IntKind.i64.wrap (x11_5 + 1))] h26 < μ3 [.slice a5_4 n5_4 c5_4, .int .i64 x11_5] h3))))))) ∧
    ((decide ((x11_5 : Int) < ((np0_1 : Nat) : Int))) = false →
      R (.slice a5_4 n5_4 c5_4) h3))
def plan_spec_l14Values : Plan := .seq none (.leaf) (.seq none (.leaf) (.seq none (.seq none (.leaf) (.block (.loop [(5, .l (.slice)), (11, .l (.int .i64))] (.seq none (.leaf) (.seq none (.cond (.leaf) (.leaf)) (.seq none (.block (.seq none (.leaf) (.seq none (.leaf) (.seq none (.seq none (.leaf) (.block (.seq none (.leaf) (.cond (.leaf) (.seq none (.leaf) (.cond (.leaf) (.seq none (.leaf) (.cond (.leaf) (.leaf))))))))) (.leaf))))) (.leaf))))))) (.seq none (.leaf) (.leaf))))
theorem tie_spec_l14Values : (fun (ap0_1 : Option Addr) (np0_1 cp0_1 : Nat) (xp1_2 : Int) (h : Heap) (R : Value → Heap → Prop) => denF X0 Try.f116 (bodyOf Try.f116) plan_spec_l14Values [.l (.sl ap0_1 np0_1 cp0_1), .l (.int .i64 xp1_2)] h R) = M_spec_l14Values := by kernel_rfl
theorem calls_spec_l14Values (ap0_1 : Option Addr) (np0_1 cp0_1 : Nat) (xp1_2 : Int) {h : Heap} {R : Value → Heap → Prop} (hm : M_spec_l14Values ap0_1 np0_1 cp0_1 xp1_2 h R) : CallsH PP fn_spec_l14Values [.slice ap0_1 np0_1 cp0_1, .int .i64 xp1_2] h R :=
  callsH_of X0ok Try.func116 (by kernel_rfl) plan_spec_l14Values [.l (.sl ap0_1 np0_1 cp0_1), .l (.int .i64 xp1_2)] (Eq.mpr (congrFun (congrFun (congrFun (congrFun (congrFun (congrFun tie_spec_l14Values ap0_1) np0_1) cp0_1) xp1_2) h) R) hm)
/- 44: impl.TopOf -/
def M_impl_TopOf (ap0_1 : Option Addr) (np0_1 cp0_1 : Nat) (xp1_2 : Int) (xp2_3 : Int) (h : Heap) (R : Value → Heap → Prop) : Prop :=
  CallsH PP fn_impl_areTotals [.slice ap0_1 np0_1 cp0_1] h fun (v4 : Value) (h4 : Heap) =>
  ∃ (t12_5 : Bool), v4 = .bool t12_5 ∧
  (((!t12_5) = false →
    CallsH PP fn_impl_within [.int .i64 xp1_2, .int .i64 1, .int .i64 4] h4 fun (v6 : Value) (h6 : Heap) =>
    ∃ (t16_7 : Bool), v6 = .bool t16_7 ∧
    (((!t16_7) = false →
      CallsH PP fn_impl_within [.int .i64 xp2_3, .int .i64 0, .int .i64 40] h6 fun (v8 : Value) (h8 : Heap) =>
      ∃ (t21_9 : Bool), v8 = .bool t21_9 ∧
      (((!t21_9) = true →
        R (.tuple ⟨[.slice none 0 0, .bool false]⟩) h8) ∧
      ((!t21_9) = false →
        CallsH PP fn_impl_totalValues [.slice ap0_1 np0_1 cp0_1, .int .i64 xp1_2] h8 fun (v10 : Value) (h10 : Heap) =>
        ∃ (a26_11 : Option Addr) (n26_11 c26_11 : Nat), v10 = .slice a26_11 n26_11 c26_11 ∧
        ∀ h12 : Heap, h12 = newRowH h10 ty_S_int [.slice none 0 0] →
        ∃ (e13 : TypeId) (c13 : List Value), Row h12 h10.size e13 c13 ∧ 0 < c13.length ∧
        ∀ h14 : Heap, h14 = putRow h12 h10.size e13 (c13.set 0 (.slice a26_11 n26_11 c26_11)) →
        ∃ (a27_15 : Option Addr) (n27_15 c27_15 : Nat), cellAt h14 h10.size 0 = some (.slice a27_15 n27_15 c27_15) ∧
        ∃ (I16 : List Value → Heap → Prop) (μ16 : List Value → Heap → Nat), I16 [.slice none 0 0, .int .i64 0] h14 ∧
        ∀ h16 : Heap, ∀ (a9_17 : Option Addr) (n9_17 c9_17 : Nat), ∀ (x29_18 : Int), I16 [.slice a9_17 n9_17 c9_17, .int .i64 x29_18] h16 →
          (((decide ((x29_18 : Int) < ((n27_15 : Nat) : Int))) = true →
            ∀ h19 : Heap, h19 = newRowH h16 ty_int [.int .i64 x29_18] →
            appendH h19 ty_int 1 [.int .i64 0] a9_17 n9_17 c9_17 (some ⟨h16.size, 0, none⟩) 1 fun (a35_20 : Option Addr) (n35_20 c35_20 : Nat) (h20 : Heap) =>
            I16 [.slice a35_20 n35_20 c35_20, .int .i64 (IntKind.i64.wrap (x29_18 + 1))] h20 ∧ μ16 [.slice a35_20 n35_20 c35_20, .int .i64 (IntKind.i64.wrap (x29_18 + 1))] h20 < μ16 [.slice a9_17 n9_17 c9_17, .int .i64 x29_18] h16) ∧
          ((decide ((x29_18 : Int) < ((n27_15 : Nat) : Int))) = false →
            CallsH PP fn_slices_SortStableFunc_int [.slice a9_17 n9_17 c9_17, .func (.func fn_impl_TopOf_1) #[] ⟨[.pointer (some ⟨h10.size, 0, none⟩)]⟩] h16 fun (v21 : Value) (h21 : Heap) =>
            v21 = .tuple ⟨[]⟩ ∧
            (0 : Int) ≤ 0 ∧ (0 : Int) ≤ minI xp2_3 ((n9_17 : Nat) : Int) ∧ minI xp2_3 ((n9_17 : Nat) : Int) ≤ ((c9_17 : Nat) : Int) ∧
            R (.tuple ⟨[.slice a9_17 ((minI xp2_3 ((n9_17 : Nat) : Int)).toNat) c9_17, .bool true]⟩) h21))))) ∧
    ((!t16_7) = true →
      R (.tuple ⟨[.slice none 0 0, .bool false]⟩) h6))) ∧
  ((!t12_5) = true →
    R (.tuple ⟨[.slice none 0 0, .bool false]⟩) h4))
def plan_impl_TopOf : Plan := .seq none (.leaf) (.seq none (.seq none (.leaf) (.cond (.seq none (.leaf) (.leaf)) (.leaf))) (.seq none (.leaf) (.seq none (.leaf) (.seq none (.seq none (.leaf) (.block (.loop [(9, .l (.slice)), (29, .l (.int .i64))] (.seq none (.leaf) (.seq none (.cond (.leaf) (.leaf)) (.seq none (.block (.seq none (.leaf) (.leaf))) (.leaf))))))) (.seq none (.leaf) (.seq none (.leaf) (.leaf)))))))
theorem tie_impl_TopOf : (fun (ap0_1 : Option Addr) (np0_1 cp0_1 : Nat) (xp1_2 : Int) (xp2_3 : Int) (h : Heap) (R : Value → Heap → Prop) => denF X0 Try.f44 (bodyOf Try.f44) plan_impl_TopOf [.l (.sl ap0_1 np0_1 cp0_1), .l (.int .i64 xp1_2), .l (.int .i64 xp2_3)] h R) = M_impl_TopOf := by kernel_rfl
theorem calls_impl_TopOf (ap0_1 : Option Addr) (np0_1 cp0_1 : Nat) (xp1_2 : Int) (xp2_3 : Int) {h : Heap} {R : Value → Heap → Prop} (hm : M_impl_TopOf ap0_1 np0_1 cp0_1 xp1_2 xp2_3 h R) : CallsH PP fn_impl_TopOf [.slice ap0_1 np0_1 cp0_1, .int .i64 xp1_2, .int .i64 xp2_3] h R :=
  callsH_of X0ok Try.func44 (by kernel_rfl) plan_impl_TopOf [.l (.sl ap0_1 np0_1 cp0_1), .l (.int .i64 xp1_2), .l (.int .i64 xp2_3)] (Eq.mpr (congrFun (congrFun (congrFun (congrFun (congrFun (congrFun (congrFun tie_impl_TopOf ap0_1) np0_1) cp0_1) xp1_2) xp2_3) h) R) hm)
/- 118: impl.areTotals -/
def M_impl_areTotals (ap0_1 : Option Addr) (np0_1 cp0_1 : Nat) (h : Heap) (R : Value → Heap → Prop) : Prop :=
  ∃ (I2 : List Value → Heap → Prop) (μ2 : List Value → Heap → Nat), I2 [.int .i64 0] h ∧
  ∀ h2 : Heap, ∀ (x7_3 : Int), I2 [.int .i64 x7_3] h2 →
    (((decide ((x7_3 : Int) < ((np0_1 : Nat) : Int))) = true →
      ∃ (b10_4 o10_4 : Nat), ap0_1 = some ⟨b10_4, o10_4, none⟩ ∧ (0 : Int) ≤ x7_3 ∧ (x7_3 : Int) < ((np0_1 : Nat) : Int) ∧
      ∃ (a11_0_5 : Option Addr) (n11_0_5 c11_0_5 : Nat), cellAt h2 b10_4 (o10_4 + (x7_3.toNat * 5)) = some (.slice a11_0_5 n11_0_5 c11_0_5) ∧
      ∃ (x11_1_6 : Int), cellAt h2 b10_4 (o10_4 + (x7_3.toNat * 5) + 1) = some (.int .i64 x11_1_6) ∧
      ∃ (x11_2_7 : Int), cellAt h2 b10_4 (o10_4 + (x7_3.toNat * 5) + 2) = some (.int .i64 x11_2_7) ∧
      ∃ (x11_3_8 : Int), cellAt h2 b10_4 (o10_4 + (x7_3.toNat * 5) + 3) = some (.int .i64 x11_3_8) ∧
      ∃ (x11_4_9 : Int), cellAt h2 b10_4 (o10_4 + (x7_3.toNat * 5) + 4) = some (.int .i64 x11_4_9) ∧
      ∀ h10 : Heap, h10 = newRowH h2 ty_impl_Total [.slice none 0 0, .int .i64 0, .int .i64 0, .int .i64 0, .int .i64 0] →
      ∃ (e11 : TypeId) (c11 : List Value), Row h10 h2.size e11 c11 ∧ 0 + 5 ≤ c11.length ∧
      ∀ h12 : Heap, h12 = putRow h10 h2.size e11 (splice c11 0 [.slice a11_0_5 n11_0_5 c11_0_5, .int .i64 x11_1_6, .int .i64 x11_2_7, .int .i64 x11_3_8, .int .i64 x11_4_9]) →
      ∃ (a13_13 : Option Addr) (n13_13 c13_13 : Nat), cellAt h12 h2.size 0 = some (.slice a13_13 n13_13 c13_13) ∧
      CallsH PP fn_impl_areLabels [.slice a13_13 n13_13 c13_13] h12 fun (v14 : Value) (h14 : Heap) =>
      ∃ (t14_15 : Bool), v14 = .bool t14_15 ∧
      (((!t14_15) = false →
        ∃ (x18_16 : Int), cellAt h14 h2.size 2 = some (.int .i64 x18_16) ∧
        CallsH PP fn_impl_within [.int .i64 x18_16, .int .i64 1, .int .i64 1000] h14 fun (v17 : Value) (h17 : Heap) =>
        ∃ (t19_18 : Bool), v17 = .bool t19_18 ∧
        (((!t19_18) = false →
          ∃ (x24_19 : Int), cellAt h17 h2.size 1 = some (.int .i64 x24_19) ∧
          CallsH PP fn_impl_within [.int .i64 x24_19, .int .i64 (-1000000000), .int .i64 1000000000] h17 fun (v20 : Value) (h20 : Heap) =>
          ∃ (t25_21 : Bool), v20 = .bool t25_21 ∧
          (((!t25_21) = false →
            ∃ (x30_22 : Int), cellAt h20 h2.size 3 = some (.int .i64 x30_22) ∧
            ∃ (x32_23 : Int), cellAt h20 h2.size 4 = some (.int .i64 x32_23) ∧
            CallsH PP fn_impl_within [.int .i64 x30_22, .int .i64 (-1000000), .int .i64 x32_23] h20 fun (v24 : Value) (h24 : Heap) =>
            ∃ (t33_25 : Bool), v24 = .bool t33_25 ∧
            (((!t33_25) = false →
              ∃ (x38_26 : Int), cellAt h24 h2.size 4 = some (.int .i64 x38_26) ∧
              (((decide ((x38_26 : Int) > 1000000)) = false →
                (((decide ((x7_3 : Int) > 0)) = true →
                  ∃ (b48_27 o48_27 : Nat), ap0_1 = some ⟨b48_27, o48_27, none⟩ ∧ (0 : Int) ≤ IntKind.i64.wrap (x7_3 - 1) ∧ (IntKind.i64.wrap (x7_3 - 1) : Int) < ((np0_1 : Nat) : Int) ∧
                  ∃ (a50_28 : Option Addr) (n50_28 c50_28 : Nat), cellAt h24 b48_27 (o48_27 + (((IntKind.i64.wrap (x7_3 - 1)).toNat) * 5)) = some (.slice a50_28 n50_28 c50_28) ∧
                  ∃ (a53_29 : Option Addr) (n53_29 c53_29 : Nat), cellAt h24 h2.size 0 = some (.slice a53_29 n53_29 c53_29) ∧
                  CallsH PP fn_impl_labelsText [.slice a50_28 n50_28 c50_28] h24 fun (v30 : Value) (h30 : Heap) =>
                  ∃ (s51_31 : ByteArray), v30 = .string s51_31 ∧
                  cellAt h30 h2.size 0 = some (.slice a53_29 n53_29 c53_29) ∧
                  cellAt h30 h2.size 4 = some (.int .i64 x38_26) ∧
                  CallsH PP fn_impl_labelsText [.slice a53_29 n53_29 c53_29] h30 fun (v32 : Value) (h32 : Heap) =>
                  ∃ (s54_33 : ByteArray), v32 = .string s54_33 ∧
                  cellAt h32 h2.size 4 = some (.int .i64 x38_26) ∧
                  (((!(Op.bytesLess (ByteArray.toList s51_31) (ByteArray.toList s54_33))) = true →
                    R (.bool false) h32) ∧
                  ((!(Op.bytesLess (ByteArray.toList s51_31) (ByteArray.toList s54_33))) = false →
                    I2 [.int .i64 (IntKind.i64.wrap (x7_3 + 1))] h32 ∧ μ2 [.int .i64 (IntKind.i64.wrap (x7_3 + 1))] h32 < μ2 [.int .i64 x7_3] h2))) ∧
                ((decide ((x7_3 : Int) > 0)) = false →
                  I2 [.int .i64 (IntKind.i64.wrap (x7_3 + 1))] h24 ∧ μ2 [.int .i64 (IntKind.i64.wrap (x7_3 + 1))] h24 < μ2 [.int .i64 x7_3] h2))) ∧
              ((decide ((x38_26 : Int) > 1000000)) = true →
                R (.bool false) h24))) ∧
            ((!t33_25) = true →
              R (.bool false) h24))) ∧
          ((!t25_21) = true →
            R (.bool false) h20))) ∧
        ((!t19_18) = true →
          R (.bool false) h17))) ∧
      ((!t14_15) = true →
        R (.bool false) h14))) ∧
    ((decide ((x7_3 : Int) < ((np0_1 : Nat) : Int))) = false →
      R (.bool (decide ((((np0_1 : Nat) : Int) : Int) ≤ 40))) h2))
def plan_impl_areTotals : Plan := .seq none (.leaf) (.seq none (.seq none (.leaf) (.block (.loop [(7, .l (.int .i64))] (.seq none (.leaf) (.seq none (.cond (.leaf) (.leaf)) (.seq none (.block (.seq none (.leaf) (.seq none (.draw (.op 0 (.op 1 (.op 2 (.op 3 (.op 4 (.op 5 (.op 6 (.op 7 (.op 8 (.op 9 (.op 10 (.op 11 (.op 12 (.op 13 (.op 14 (.op 15 (.op 16 (.op 17 (.op 18 (.op 19 (.op 20 (.op 21 (.op 22 (.op 23 (.op 24 (.op 25 (.op 26 (.op 27 (.op 28 (.op 29 (.op 30 (.op 31 (.op 32 (.op 33 (.op 34 (.op 35 (.op 36 (.op 37 (.op 38 (.op 40 (.op 41 (.op 39 (.op 42 (.op 43 (.op 44 (.op 45 .done))))))))))))))))))))))))))))))))))))))))))))))) (.cond (.seq none (.leaf) (.leaf)) (.leaf))))) (.leaf))))))) (.seq none (.leaf) (.leaf)))
theorem tie_impl_areTotals : (fun (ap0_1 : Option Addr) (np0_1 cp0_1 : Nat) (h : Heap) (R : Value → Heap → Prop) => denF X0 Try.f118 (bodyOf Try.f118) plan_impl_areTotals [.l (.sl ap0_1 np0_1 cp0_1)] h R) = M_impl_areTotals := by kernel_rfl
theorem calls_impl_areTotals (ap0_1 : Option Addr) (np0_1 cp0_1 : Nat) {h : Heap} {R : Value → Heap → Prop} (hm : M_impl_areTotals ap0_1 np0_1 cp0_1 h R) : CallsH PP fn_impl_areTotals [.slice ap0_1 np0_1 cp0_1] h R :=
  callsH_of X0ok Try.func118 (by kernel_rfl) plan_impl_areTotals [.l (.sl ap0_1 np0_1 cp0_1)] (Eq.mpr (congrFun (congrFun (congrFun (congrFun (congrFun tie_impl_areTotals ap0_1) np0_1) cp0_1) h) R) hm)
/- 182: impl.areLabels -/
def M_impl_areLabels (ap0_1 : Option Addr) (np0_1 cp0_1 : Nat) (h : Heap) (R : Value → Heap → Prop) : Prop :=
  ∃ (I2 : List Value → Heap → Prop) (μ2 : List Value → Heap → Nat), I2 [.int .i64 0] h ∧
  ∀ h2 : Heap, ∀ (x7_3 : Int), I2 [.int .i64 x7_3] h2 →
    (((decide ((x7_3 : Int) < ((np0_1 : Nat) : Int))) = true →
      ∃ (b10_4 o10_4 : Nat), ap0_1 = some ⟨b10_4, o10_4, none⟩ ∧ (0 : Int) ≤ x7_3 ∧ (x7_3 : Int) < ((np0_1 : Nat) : Int) ∧
      ∃ (s11_0_5 : ByteArray), cellAt h2 b10_4 (o10_4 + (x7_3.toNat * 2)) = some (.string s11_0_5) ∧
      ∃ (s11_1_6 : ByteArray), cellAt h2 b10_4 (o10_4 + (x7_3.toNat * 2) + 1) = some (.string s11_1_6) ∧
      ∀ h7 : Heap, h7 = newRowH h2 ty_impl_Label [.string ByteArray.empty, .string ByteArray.empty] →
      ∃ (e8 : TypeId) (c8 : List Value), Row h7 h2.size e8 c8 ∧ 0 + 2 ≤ c8.length ∧
      ∀ h9 : Heap, h9 = putRow h7 h2.size e8 (splice c8 0 [.string s11_0_5, .string s11_1_6]) →
      ∃ (s12_0_10 : ByteArray), cellAt h9 h2.size 0 = some (.string s12_0_10) ∧
      ∃ (s12_1_11 : ByteArray), cellAt h9 h2.size 1 = some (.string s12_1_11) ∧
      CallsH PP fn_impl_isLabel [.agg ⟨[.string s12_0_10, .string s12_1_11]⟩] h9 fun (v12 : Value) (h12 : Heap) =>
      ∃ (t13_13 : Bool), v12 = .bool t13_13 ∧
      (((!t13_13) = false →
        (((decide ((x7_3 : Int) > 0)) = true →
          ∃ (b22_14 o22_14 : Nat), ap0_1 = some ⟨b22_14, o22_14, none⟩ ∧ (0 : Int) ≤ IntKind.i64.wrap (x7_3 - 1) ∧ (IntKind.i64.wrap (x7_3 - 1) : Int) < ((np0_1 : Nat) : Int) ∧
          ∃ (s24_15 : ByteArray), cellAt h12 b22_14 (o22_14 + (((IntKind.i64.wrap (x7_3 - 1)).toNat) * 2)) = some (.string s24_15) ∧
          ∃ (s26_16 : ByteArray), cellAt h12 h2.size 0 = some (.string s26_16) ∧
          (((!(Op.bytesLess (ByteArray.toList s24_15) (ByteArray.toList s26_16))) = true →
            R (.bool false) h12) ∧
          ((!(Op.bytesLess (ByteArray.toList s24_15) (ByteArray.toList s26_16))) = false →
            I2 [.int .i64 (IntKind.i64.wrap (x7_3 + 1))] h12 ∧ μ2 [.int .i64 (IntKind.i64.wrap (x7_3 + 1))] h12 < μ2 [.int .i64 x7_3] h2))) ∧
        ((decide ((x7_3 : Int) > 0)) = false →
          I2 [.int .i64 (IntKind.i64.wrap (x7_3 + 1))] h12 ∧ μ2 [.int .i64 (IntKind.i64.wrap (x7_3 + 1))] h12 < μ2 [.int .i64 x7_3] h2))) ∧
      ((!t13_13) = true →
        R (.bool false) h12))) ∧
    ((decide ((x7_3 : Int) < ((np0_1 : Nat) : Int))) = false →
      R (.bool (decide ((((np0_1 : Nat) : Int) : Int) ≤ 6))) h2))
def plan_impl_areLabels : Plan := .seq none (.leaf) (.seq none (.seq none (.leaf) (.block (.loop [(7, .l (.int .i64))] (.seq none (.leaf) (.seq none (.cond (.leaf) (.leaf)) (.seq none (.block (.seq none (.leaf) (.seq none (.draw (.op 0 (.op 1 (.op 2 (.op 3 (.op 4 (.op 5 (.op 6 (.op 7 (.op 8 (.op 9 (.op 10 (.op 11 (.op 12 (.op 13 (.op 14 (.op 15 (.op 16 (.op 17 .done))))))))))))))))))) (.cond (.seq none (.leaf) (.leaf)) (.leaf))))) (.leaf))))))) (.seq none (.leaf) (.leaf)))
theorem tie_impl_areLabels : (fun (ap0_1 : Option Addr) (np0_1 cp0_1 : Nat) (h : Heap) (R : Value → Heap → Prop) => denF X0 Try.f182 (bodyOf Try.f182) plan_impl_areLabels [.l (.sl ap0_1 np0_1 cp0_1)] h R) = M_impl_areLabels := by kernel_rfl
theorem calls_impl_areLabels (ap0_1 : Option Addr) (np0_1 cp0_1 : Nat) {h : Heap} {R : Value → Heap → Prop} (hm : M_impl_areLabels ap0_1 np0_1 cp0_1 h R) : CallsH PP fn_impl_areLabels [.slice ap0_1 np0_1 cp0_1] h R :=
  callsH_of X0ok Try.func182 (by kernel_rfl) plan_impl_areLabels [.l (.sl ap0_1 np0_1 cp0_1)] (Eq.mpr (congrFun (congrFun (congrFun (congrFun (congrFun tie_impl_areLabels ap0_1) np0_1) cp0_1) h) R) hm)
/- 223: impl.isLabel -/
def M_impl_isLabel (sp0_0_1 : ByteArray) (sp0_1_2 : ByteArray) (h : Heap) (R : Value → Heap → Prop) : Prop :=
  ∀ h3 : Heap, h3 = newRowH h ty_impl_Label [.string sp0_0_1, .string sp0_1_2] →
  ∃ (s4_4 : ByteArray), cellAt h3 h.size 0 = some (.string s4_4) ∧
  CallsH PP fn_impl_isWord [.string s4_4, .bool false] h3 fun (v5 : Value) (h5 : Heap) =>
  ∃ (t5_6 : Bool), v5 = .bool t5_6 ∧
  ((t5_6 = true →
    ∃ (s8_7 : ByteArray), cellAt h5 h.size 1 = some (.string s8_7) ∧
    CallsH PP fn_impl_isWord [.string s8_7, .bool true] h5 fun (v8 : Value) (h8 : Heap) =>
    ∃ (t9_9 : Bool), v8 = .bool t9_9 ∧
    R (.bool t9_9) h8) ∧
  (t5_6 = false →
    R (.bool false) h5))
def plan_impl_isLabel : Plan := .seq none (.leaf) (.seq none (.leaf) (.leaf))
theorem tie_impl_isLabel : (fun (sp0_0_1 : ByteArray) (sp0_1_2 : ByteArray) (h : Heap) (R : Value → Heap → Prop) => denF X0 Try.f223 (bodyOf Try.f223) plan_impl_isLabel [.agg [.str sp0_0_1, .str sp0_1_2]] h R) = M_impl_isLabel := by kernel_rfl
theorem calls_impl_isLabel (sp0_0_1 : ByteArray) (sp0_1_2 : ByteArray) {h : Heap} {R : Value → Heap → Prop} (hm : M_impl_isLabel sp0_0_1 sp0_1_2 h R) : CallsH PP fn_impl_isLabel [.agg ⟨[.string sp0_0_1, .string sp0_1_2]⟩] h R :=
  callsH_of X0ok Try.func223 (by kernel_rfl) plan_impl_isLabel [.agg [.str sp0_0_1, .str sp0_1_2]] (Eq.mpr (congrFun (congrFun (congrFun (congrFun tie_impl_isLabel sp0_0_1) sp0_1_2) h) R) hm)
/- 183: impl.labelsText -/
def M_impl_labelsText (ap0_1 : Option Addr) (np0_1 cp0_1 : Nat) (h : Heap) (R : Value → Heap → Prop) : Prop :=
  0 ≤ ((np0_1 : Nat) : Int) ∧ ((np0_1 : Nat) : Int) ≤ ((np0_1 : Nat) : Int) ∧ ((np0_1 : Nat) : Int) ≤ 1099511627776 ∧ ((16 : Nat) : Int) * ((np0_1 : Nat) : Int) ≤ 281474976710656 ∧
  ∀ h2 : Heap, h2 = newRowH h ty_string (repl [.string ByteArray.empty] np0_1) →
  ∃ (I3 : List Value → Heap → Prop) (μ3 : List Value → Heap → Nat), I3 [.int .i64 0] h2 ∧
  ∀ h3 : Heap, ∀ (x11_4 : Int), I3 [.int .i64 x11_4] h3 →
    (((decide ((x11_4 : Int) < ((np0_1 : Nat) : Int))) = true →
      ∃ (b14_5 o14_5 : Nat), ap0_1 = some ⟨b14_5, o14_5, none⟩ ∧ (0 : Int) ≤ x11_4 ∧ (x11_4 : Int) < ((np0_1 : Nat) : Int) ∧
      ∃ (s15_0_6 : ByteArray), cellAt h3 b14_5 (o14_5 + (x11_4.toNat * 2)) = some (.string s15_0_6) ∧
      ∃ (s15_1_7 : ByteArray), cellAt h3 b14_5 (o14_5 + (x11_4.toNat * 2) + 1) = some (.string s15_1_7) ∧
      ∀ h8 : Heap, h8 = newRowH h3 ty_impl_Label [.string ByteArray.empty, .string ByteArray.empty] →
      ∃ (e9 : TypeId) (c9 : List Value), Row h8 h3.size e9 c9 ∧ 0 + 2 ≤ c9.length ∧
      ∀ h10 : Heap, h10 = putRow h8 h3.size e9 (splice c9 0 [.string s15_0_6, .string s15_1_7]) →
      ∃ (s19_11 : ByteArray), cellAt h10 h3.size 0 = some (.string s19_11) ∧
      ByteArray.size s19_11 + ByteArray.size (⟨⟨[61]⟩⟩ : ByteArray) ≤ 9223372036854775807 ∧
      ∃ (s22_12 : ByteArray), cellAt h10 h3.size 1 = some (.string s22_12) ∧
      ByteArray.size (s19_11 ++ (⟨⟨[61]⟩⟩ : ByteArray)) + ByteArray.size s22_12 ≤ 9223372036854775807 ∧
      (0 : Int) ≤ x11_4 ∧ (x11_4 : Int) < ((np0_1 : Nat) : Int) ∧
      ∃ (e13 : TypeId) (c13 : List Value), Row h10 h.size e13 c13 ∧ 0 + x11_4.toNat < c13.length ∧
      ∀ h14 : Heap, h14 = putRow h10 h.size e13 (c13.set (0 + x11_4.toNat) (.string ((s19_11 ++ (⟨⟨[61]⟩⟩ : ByteArray)) ++ s22_12))) →
      I3 [.int .i64 (IntKind.i64.wrap (x11_4 + 1))] h14 ∧ μ3 [.int .i64 (IntKind.i64.wrap (x11_4 + 1))] h14 < μ3 [.int .i64 x11_4] h3) ∧
    ((decide ((x11_4 : Int) < ((np0_1 : Nat) : Int))) = false →
      CallsH PP fn_strings_Join [.slice (some ⟨h.size, 0, none⟩) np0_1 np0_1, .string (⟨⟨[44]⟩⟩ : ByteArray)] h3 fun (v15 : Value) (h15 : Heap) =>
      ∃ (s27_16 : ByteArray), v15 = .string s27_16 ∧
      ByteArray.size (⟨⟨[123]⟩⟩ : ByteArray) + ByteArray.size s27_16 ≤ 9223372036854775807 ∧
      ByteArray.size ((⟨⟨[123]⟩⟩ : ByteArray) ++ s27_16) + ByteArray.size (⟨⟨[125]⟩⟩ : ByteArray) ≤ 9223372036854775807 ∧
      R (.string (((⟨⟨[123]⟩⟩ : ByteArray) ++ s27_16) ++ (⟨⟨[125]⟩⟩ : ByteArray))) h15))
def plan_impl_labelsText : Plan := .seq none (.leaf) (.seq none (.leaf) (.seq none (.seq none (.leaf) (.block (.loop [(11, .l (.int .i64))] (.seq none (.leaf) (.seq none (.cond (.leaf) (.leaf)) (.seq none (.block (.seq none (.leaf) (.leaf))) (.leaf))))))) (.seq none (.leaf) (.leaf))))
theorem tie_impl_labelsText : (fun (ap0_1 : Option Addr) (np0_1 cp0_1 : Nat) (h : Heap) (R : Value → Heap → Prop) => denF X0 Try.f183 (bodyOf Try.f183) plan_impl_labelsText [.l (.sl ap0_1 np0_1 cp0_1)] h R) = M_impl_labelsText := by kernel_rfl
theorem calls_impl_labelsText (ap0_1 : Option Addr) (np0_1 cp0_1 : Nat) {h : Heap} {R : Value → Heap → Prop} (hm : M_impl_labelsText ap0_1 np0_1 cp0_1 h R) : CallsH PP fn_impl_labelsText [.slice ap0_1 np0_1 cp0_1] h R :=
  callsH_of X0ok Try.func183 (by kernel_rfl) plan_impl_labelsText [.l (.sl ap0_1 np0_1 cp0_1)] (Eq.mpr (congrFun (congrFun (congrFun (congrFun (congrFun tie_impl_labelsText ap0_1) np0_1) cp0_1) h) R) hm)
/- 120: impl.totalValues -/
def M_impl_totalValues (ap0_1 : Option Addr) (np0_1 cp0_1 : Nat) (xp1_2 : Int) (h : Heap) (R : Value → Heap → Prop) : Prop :=
  ∃ (I3 : List Value → Heap → Prop) (μ3 : List Value → Heap → Nat), I3 [.slice none 0 0, .int .i64 0] h ∧
  ∀ h3 : Heap, ∀ (a5_4 : Option Addr) (n5_4 c5_4 : Nat), ∀ (x10_5 : Int), I3 [.slice a5_4 n5_4 c5_4, .int .i64 x10_5] h3 →
    (((decide ((x10_5 : Int) < ((np0_1 : Nat) : Int))) = true →
      ∃ (b12_6 o12_6 : Nat), ap0_1 = some ⟨b12_6, o12_6, none⟩ ∧ (0 : Int) ≤ x10_5 ∧ (x10_5 : Int) < ((np0_1 : Nat) : Int) ∧
      ∃ (a13_0_7 : Option Addr) (n13_0_7 c13_0_7 : Nat), cellAt h3 b12_6 (o12_6 + (x10_5.toNat * 5)) = some (.slice a13_0_7 n13_0_7 c13_0_7) ∧
      ∃ (x13_1_8 : Int), cellAt h3 b12_6 (o12_6 + (x10_5.toNat * 5) + 1) = some (.int .i64 x13_1_8) ∧
      ∃ (x13_2_9 : Int), cellAt h3 b12_6 (o12_6 + (x10_5.toNat * 5) + 2) = some (.int .i64 x13_2_9) ∧
      ∃ (x13_3_10 : Int), cellAt h3 b12_6 (o12_6 + (x10_5.toNat * 5) + 3) = some (.int .i64 x13_3_10) ∧
      ∃ (x13_4_11 : Int), cellAt h3 b12_6 (o12_6 + (x10_5.toNat * 5) + 4) = some (.int .i64 x13_4_11) ∧
      ∀ h12 : Heap, h12 = newRowH h3 ty_impl_Total [.slice none 0 0, .int .i64 0, .int .i64 0, .int .i64 0, .int .i64 0] →
      ∃ (e13 : TypeId) (c13 : List Value), Row h12 h3.size e13 c13 ∧ 0 + 5 ≤ c13.length ∧
      ∀ h14 : Heap, h14 = putRow h12 h3.size e13 (splice c13 0 [.slice a13_0_7 n13_0_7 c13_0_7, .int .i64 x13_1_8, .int .i64 x13_2_9, .int .i64 x13_3_10, .int .i64 x13_4_11]) →
      ∃ (x16_15 : Int), cellAt h14 h3.size 1 = some (.int .i64 x16_15) ∧
      ∃ (x18_16 : Int), cellAt h14 h3.size 2 = some (.int .i64 x18_16) ∧
      ∃ (x20_17 : Int), cellAt h14 h3.size 3 = some (.int .i64 x20_17) ∧
      ∃ (x22_18 : Int), cellAt h14 h3.size 4 = some (.int .i64 x22_18) ∧
      (0 : Int) ≤ IntKind.i64.wrap (xp1_2 - 1) ∧ (IntKind.i64.wrap (xp1_2 - 1) : Int) < ((4 : Nat) : Int) ∧
      ∀ h19 : Heap, h19 = newRowH h14 ty_int [.int .i64 (List.getD [x16_15, x18_16, x20_17, x22_18] (IntKind.i64.wrap (xp1_2 - 1)).toNat 0)] →
      appendH h19 ty_int 1 [.int .i64 0] a5_4 n5_4 c5_4 (some ⟨h14.size, 0, none⟩) 1 fun (a28_20 : Option Addr) (n28_20 c28_20 : Nat) (h20 : Heap) =>
      I3 [.slice a28_20 n28_20 c28_20, .int .i64 (IntKind.i64.wrap (x10_5 + 1))] h20 ∧ μ3 [.slice a28_20 n28_20 c28_20, .int .i64 (IntKind.i64.wrap (x10_5 + 1))] h20 < μ3 [.slice a5_4 n5_4 c5_4, .int .i64 x10_5] h3) ∧
    ((decide ((x10_5 : Int) < ((np0_1 : Nat) : Int))) = false →
      R (.slice a5_4 n5_4 c5_4) h3))
def plan_impl_totalValues : Plan := .seq none (.leaf) (.seq none (.leaf) (.seq none (.seq none (.leaf) (.block (.loop [(5, .l (.slice)), (10, .l (.int .i64))] (.seq none (.leaf) (.seq none (.cond (.leaf) (.leaf)) (.seq none (.block (.seq none (.leaf) (.leaf))) (.leaf))))))) (.seq none (.leaf) (.leaf))))
theorem tie_impl_totalValues : (fun (ap0_1 : Option Addr) (np0_1 cp0_1 : Nat) (xp1_2 : Int) (h : Heap) (R : Value → Heap → Prop) => denF X0 Try.f120 (bodyOf Try.f120) plan_impl_totalValues [.l (.sl ap0_1 np0_1 cp0_1), .l (.int .i64 xp1_2)] h R) = M_impl_totalValues := by kernel_rfl
theorem calls_impl_totalValues (ap0_1 : Option Addr) (np0_1 cp0_1 : Nat) (xp1_2 : Int) {h : Heap} {R : Value → Heap → Prop} (hm : M_impl_totalValues ap0_1 np0_1 cp0_1 xp1_2 h R) : CallsH PP fn_impl_totalValues [.slice ap0_1 np0_1 cp0_1, .int .i64 xp1_2] h R :=
  callsH_of X0ok Try.func120 (by kernel_rfl) plan_impl_totalValues [.l (.sl ap0_1 np0_1 cp0_1), .l (.int .i64 xp1_2)] (Eq.mpr (congrFun (congrFun (congrFun (congrFun (congrFun (congrFun tie_impl_totalValues ap0_1) np0_1) cp0_1) xp1_2) h) R) hm)
/- 121: slices.SortStableFunc[[]int,int] -/
def M_slices_SortStableFunc_int (ap0_1 : Option Addr) (np0_1 cp0_1 : Nat) (vp1_2 : Value) (h : Heap) (R : Value → Heap → Prop) : Prop :=
  CallsH PP fn_slices_stableCmpFunc_int [.slice ap0_1 np0_1 cp0_1, .int .i64 ((np0_1 : Nat) : Int), vp1_2] h fun (v3 : Value) (h3 : Heap) =>
  v3 = .tuple ⟨[]⟩ ∧
  R (.tuple ⟨[]⟩) h3
def plan_slices_SortStableFunc_int : Plan := .leaf
theorem tie_slices_SortStableFunc_int : (fun (ap0_1 : Option Addr) (np0_1 cp0_1 : Nat) (vp1_2 : Value) (h : Heap) (R : Value → Heap → Prop) => denF X0 Try.f121 (bodyOf Try.f121) plan_slices_SortStableFunc_int [.l (.sl ap0_1 np0_1 cp0_1), .l (.any vp1_2)] h R) = M_slices_SortStableFunc_int := by kernel_rfl
theorem calls_slices_SortStableFunc_int (ap0_1 : Option Addr) (np0_1 cp0_1 : Nat) (vp1_2 : Value) {h : Heap} {R : Value → Heap → Prop} (hm : M_slices_SortStableFunc_int ap0_1 np0_1 cp0_1 vp1_2 h R) : CallsH PP fn_slices_SortStableFunc_int [.slice ap0_1 np0_1 cp0_1, vp1_2] h R :=
  callsH_of X0ok Try.func121 (by kernel_rfl) plan_slices_SortStableFunc_int [.l (.sl ap0_1 np0_1 cp0_1), .l (.any vp1_2)] (Eq.mpr (congrFun (congrFun (congrFun (congrFun (congrFun (congrFun tie_slices_SortStableFunc_int ap0_1) np0_1) cp0_1) vp1_2) h) R) hm)
/- 184: slices.stableCmpFunc[int] -/
def M_slices_stableCmpFunc_int (ap0_1 : Option Addr) (np0_1 cp0_1 : Nat) (xp1_2 : Int) (vp2_3 : Value) (h : Heap) (R : Value → Heap → Prop) : Prop :=
  ∃ (I4 : List Value → Heap → Prop) (μ4 : List Value → Heap → Nat), I4 [.int .i64 0, .int .i64 20] h ∧
  ∀ h4 : Heap, ∀ (x7_5 : Int), ∀ (x8_6 : Int), I4 [.int .i64 x7_5, .int .i64 x8_6] h4 →
    (((decide ((x8_6 : Int) ≤ xp1_2)) = true →
      CallsH PP fn_slices_insertionSortCmpFunc_int [.slice ap0_1 np0_1 cp0_1, .int .i64 x7_5, .int .i64 x8_6, vp2_3] h4 fun (v7 : Value) (h7 : Heap) =>
      v7 = .tuple ⟨[]⟩ ∧
      I4 [.int .i64 x8_6, .int .i64 (IntKind.i64.wrap (x8_6 + 20))] h7 ∧ μ4 [.int .i64 x8_6, .int .i64 (IntKind.i64.wrap (x8_6 + 20))] h7 < μ4 [.int .i64 x7_5, .int .i64 x8_6] h4) ∧
    ((decide ((x8_6 : Int) ≤ xp1_2)) = false →
      CallsH PP fn_slices_insertionSortCmpFunc_int [.slice ap0_1 np0_1 cp0_1, .int .i64 x7_5, .int .i64 xp1_2, vp2_3] h4 fun (v8 : Value) (h8 : Heap) =>
      v8 = .tuple ⟨[]⟩ ∧
      ∃ (I9 : List Value → Heap → Prop) (μ9 : List Value → Heap → Nat), I9 [.int .i64 20] h8 ∧
      ∀ h9 : Heap, ∀ (x6_10 : Int), I9 [.int .i64 x6_10] h9 →
        (((decide ((x6_10 : Int) < xp1_2)) = true →
          ∃ (I11 : List Value → Heap → Prop) (μ11 : List Value → Heap → Nat), I11 [.int .i64 0, .int .i64 (IntKind.i64.wrap (2 * x6_10))] h9 ∧
          ∀ h11 : Heap, ∀ (x7_12 : Int), ∀ (x8_13 : Int), I11 [.int .i64 x7_12, .int .i64 x8_13] h11 →
            (((decide ((x8_13 : Int) ≤ xp1_2)) = true →
              CallsH PP fn_slices_symMergeCmpFunc_int [.slice ap0_1 np0_1 cp0_1, .int .i64 x7_12, .int .i64 (IntKind.i64.wrap (x7_12 + x6_10)), .int .i64 x8_13, vp2_3] h11 fun (v14 : Value) (h14 : Heap) =>
              v14 = .tuple ⟨[]⟩ ∧
              I11 [.int .i64 x8_13, .int .i64 (IntKind.i64.wrap (x8_13 + (IntKind.i64.wrap (2 * x6_10))))] h14 ∧ μ11 [.int .i64 x8_13, .int .i64 (IntKind.i64.wrap (x8_13 + (IntKind.i64.wrap (2 * x6_10))))] h14 < μ11 [.int .i64 x7_12, .int .i64 x8_13] h11) ∧
            ((decide ((x8_13 : Int) ≤ xp1_2)) = false →
              (((decide (((IntKind.i64.wrap (x7_12 + x6_10)) : Int) < xp1_2)) = true →
                CallsH PP fn_slices_symMergeCmpFunc_int [.slice ap0_1 np0_1 cp0_1, .int .i64 x7_12, .int .i64 (IntKind.i64.wrap (x7_12 + x6_10)), .int .i64 xp1_2, vp2_3] h11 fun (v15 : Value) (h15 : Heap) =>
                v15 = .tuple ⟨[]⟩ ∧
                I9 [.int .i64 (IntKind.i64.wrap (x6_10 * 2))] h15 ∧ μ9 [.int .i64 (IntKind.i64.wrap (x6_10 * 2))] h15 < μ9 [.int .i64 x6_10] h9) ∧
              ((decide (((IntKind.i64.wrap (x7_12 + x6_10)) : Int) < xp1_2)) = false →
                I9 [.int .i64 (IntKind.i64.wrap (x6_10 * 2))] h11 ∧ μ9 [.int .i64 (IntKind.i64.wrap (x6_10 * 2))] h11 < μ9 [.int .i64 x6_10] h9))))) ∧
        ((decide ((x6_10 : Int) < xp1_2)) = false →
          R (.tuple ⟨[]⟩) h9))))
def plan_slices_stableCmpFunc_int : Plan := .seq none (.leaf) (.seq none (.leaf) (.seq none (.block (.loop [(7, .l (.int .i64)), (8, .l (.int .i64))] (.seq none (.seq none (.leaf) (.cond (.leaf) (.leaf))) (.block (.seq none (.leaf) (.seq none (.leaf) (.leaf))))))) (.seq none (.leaf) (.block (.loop [(6, .l (.int .i64))] (.seq none (.seq none (.leaf) (.cond (.leaf) (.leaf))) (.block (.seq none (.leaf) (.seq none (.block (.loop [(7, .l (.int .i64)), (8, .l (.int .i64))] (.seq none (.seq none (.leaf) (.cond (.leaf) (.leaf))) (.block (.seq none (.leaf) (.seq none (.leaf) (.leaf))))))) (.seq none (.seq none (.leaf) (.seq none (.leaf) (.cond (.leaf) (.leaf)))) (.leaf)))))))))))
theorem tie_slices_stableCmpFunc_int : (fun (ap0_1 : Option Addr) (np0_1 cp0_1 : Nat) (xp1_2 : Int) (vp2_3 : Value) (h : Heap) (R : Value → Heap → Prop) => denF X0 Try.f184 (bodyOf Try.f184) plan_slices_stableCmpFunc_int [.l (.sl ap0_1 np0_1 cp0_1), .l (.int .i64 xp1_2), .l (.any vp2_3)] h R) = M_slices_stableCmpFunc_int := by kernel_rfl
theorem calls_slices_stableCmpFunc_int (ap0_1 : Option Addr) (np0_1 cp0_1 : Nat) (xp1_2 : Int) (vp2_3 : Value) {h : Heap} {R : Value → Heap → Prop} (hm : M_slices_stableCmpFunc_int ap0_1 np0_1 cp0_1 xp1_2 vp2_3 h R) : CallsH PP fn_slices_stableCmpFunc_int [.slice ap0_1 np0_1 cp0_1, .int .i64 xp1_2, vp2_3] h R :=
  callsH_of X0ok Try.func184 (by kernel_rfl) plan_slices_stableCmpFunc_int [.l (.sl ap0_1 np0_1 cp0_1), .l (.int .i64 xp1_2), .l (.any vp2_3)] (Eq.mpr (congrFun (congrFun (congrFun (congrFun (congrFun (congrFun (congrFun tie_slices_stableCmpFunc_int ap0_1) np0_1) cp0_1) xp1_2) vp2_3) h) R) hm)
/- 225: slices.insertionSortCmpFunc[int] -/
def M_slices_insertionSortCmpFunc_int (ap0_1 : Option Addr) (np0_1 cp0_1 : Nat) (xp1_2 : Int) (xp2_3 : Int) (vp3_4 : Value) (h : Heap) (R : Value → Heap → Prop) : Prop :=
  ∃ (I5 : List Value → Heap → Prop) (μ5 : List Value → Heap → Nat), I5 [.int .i64 (IntKind.i64.wrap (xp1_2 + 1))] h ∧
  ∀ h5 : Heap, ∀ (x8_6 : Int), I5 [.int .i64 x8_6] h5 →
    (((decide ((x8_6 : Int) < xp2_3)) = true →
      ∃ (I7 : List Value → Heap → Prop) (μ7 : List Value → Heap → Nat), I7 [.int .i64 x8_6] h5 ∧
      ∀ h7 : Heap, ∀ (x9_8 : Int), I7 [.int .i64 x9_8] h7 →
        (((decide ((x9_8 : Int) > xp1_2)) = true →
          ∃ (b25_9 o25_9 : Nat), ap0_1 = some ⟨b25_9, o25_9, none⟩ ∧ (0 : Int) ≤ x9_8 ∧ (x9_8 : Int) < ((np0_1 : Nat) : Int) ∧
          ∃ (x26_10 : Int), cellAt h7 b25_9 (o25_9 + x9_8.toNat) = some (.int .i64 x26_10) ∧
          ∃ (b30_11 o30_11 : Nat), ap0_1 = some ⟨b30_11, o30_11, none⟩ ∧ (0 : Int) ≤ IntKind.i64.wrap (x9_8 - 1) ∧ (IntKind.i64.wrap (x9_8 - 1) : Int) < ((np0_1 : Nat) : Int) ∧
          ∃ (x31_12 : Int), cellAt h7 b30_11 (o30_11 + ((IntKind.i64.wrap (x9_8 - 1)).toNat)) = some (.int .i64 x31_12) ∧
          ∃ (g13 : FuncId) (k13 : List Value), vp3_4 = .func (.func g13) #[] ⟨k13⟩ ∧ Callable PP g13 ∧ CallsH PP g13 ([.int .i64 x26_10, .int .i64 x31_12] ++ k13) h7 fun (v13 : Value) (h13 : Heap) =>
          ∃ (x32_14 : Int), v13 = .int .i64 x32_14 ∧
          (((decide ((x32_14 : Int) < 0)) = true →
            ∃ (b45_15 o45_15 : Nat), ap0_1 = some ⟨b45_15, o45_15, none⟩ ∧ (0 : Int) ≤ IntKind.i64.wrap (x9_8 - 1) ∧ (IntKind.i64.wrap (x9_8 - 1) : Int) < ((np0_1 : Nat) : Int) ∧
            ∃ (x46_16 : Int), cellAt h13 b45_15 (o45_15 + ((IntKind.i64.wrap (x9_8 - 1)).toNat)) = some (.int .i64 x46_16) ∧
            ∃ (b49_17 o49_17 : Nat), ap0_1 = some ⟨b49_17, o49_17, none⟩ ∧ (0 : Int) ≤ x9_8 ∧ (x9_8 : Int) < ((np0_1 : Nat) : Int) ∧
            ∃ (x50_18 : Int), cellAt h13 b49_17 (o49_17 + x9_8.toNat) = some (.int .i64 x50_18) ∧
            ∃ (b51_19 o51_19 : Nat), ap0_1 = some ⟨b51_19, o51_19, none⟩ ∧ (0 : Int) ≤ x9_8 ∧ (x9_8 : Int) < ((np0_1 : Nat) : Int) ∧
            ∃ (e20 : TypeId) (c20 : List Value), Row h13 b51_19 e20 c20 ∧ o51_19 + x9_8.toNat < c20.length ∧
            ∀ h21 : Heap, h21 = putRow h13 b51_19 e20 (c20.set (o51_19 + x9_8.toNat) (.int .i64 x46_16)) →
            ∃ (b52_22 o52_22 : Nat), ap0_1 = some ⟨b52_22, o52_22, none⟩ ∧ (0 : Int) ≤ IntKind.i64.wrap (x9_8 - 1) ∧ (IntKind.i64.wrap (x9_8 - 1) : Int) < ((np0_1 : Nat) : Int) ∧
            ∃ (e23 : TypeId) (c23 : List Value), Row h21 b52_22 e23 c23 ∧ o52_22 + ((IntKind.i64.wrap (x9_8 - 1)).toNat) < c23.length ∧
            ∀ h24 : Heap, h24 = putRow h21 b52_22 e23 (c23.set (o52_22 + ((IntKind.i64.wrap (x9_8 - 1)).toNat)) (.int .i64 x50_18)) →
            I7 [.int .i64 (IntKind.i64.wrap (x9_8 - 1))] h24 ∧ μ7 [.int .i64 (IntKind.i64.wrap (x9_8 - 1))] h24 < μ7 [.int .i64 x9_8] h7) ∧
          ((decide ((x32_14 : Int) < 0)) = false →
            I5 [.int .i64 (IntKind.i64.wrap (x8_6 + 1))] h13 ∧ μ5 [.int .i64 (IntKind.i64.wrap (x8_6 + 1))] h13 < μ5 [.int .i64 x8_6] h5))) ∧
        ((decide ((x9_8 : Int) > xp1_2)) = false →
          I5 [.int .i64 (IntKind.i64.wrap (x8_6 + 1))] h7 ∧ μ5 [.int .i64 (IntKind.i64.wrap (x8_6 + 1))] h7 < μ5 [.int .i64 x8_6] h5))) ∧
    ((decide ((x8_6 : Int) < xp2_3)) = false →
      R (.tuple ⟨[]⟩) h5))
def plan_slices_insertionSortCmpFunc_int : Plan := .seq none (.leaf) (.block (.loop [(8, .l (.int .i64))] (.seq none (.seq none (.leaf) (.cond (.leaf) (.leaf))) (.seq none (.block (.seq none (.leaf) (.block (.loop [(9, .l (.int .i64))] (.seq none (.seq none (.draw (.op 0 (.op 1 (.op 2 (.op 3 (.op 4 (.op 5 (.op 6 (.op 7 (.op 8 (.op 9 (.op 10 (.op 11 (.op 12 (.op 13 (.op 14 (.op 15 (.op 16 .done)))))))))))))))))) (.cond (.leaf) (.leaf))) (.seq none (.block (.draw (.op 0 (.op 1 (.op 2 (.op 3 (.op 4 (.op 5 (.op 6 (.op 7 (.op 8 (.op 9 (.op 10 (.op 11 (.op 12 (.op 13 (.op 14 (.op 15 (.op 16 (.op 17 .done)))))))))))))))))))) (.leaf))))))) (.leaf)))))
theorem tie_slices_insertionSortCmpFunc_int : (fun (ap0_1 : Option Addr) (np0_1 cp0_1 : Nat) (xp1_2 : Int) (xp2_3 : Int) (vp3_4 : Value) (h : Heap) (R : Value → Heap → Prop) => denF X0 Try.f225 (bodyOf Try.f225) plan_slices_insertionSortCmpFunc_int [.l (.sl ap0_1 np0_1 cp0_1), .l (.int .i64 xp1_2), .l (.int .i64 xp2_3), .l (.any vp3_4)] h R) = M_slices_insertionSortCmpFunc_int := by kernel_rfl
theorem calls_slices_insertionSortCmpFunc_int (ap0_1 : Option Addr) (np0_1 cp0_1 : Nat) (xp1_2 : Int) (xp2_3 : Int) (vp3_4 : Value) {h : Heap} {R : Value → Heap → Prop} (hm : M_slices_insertionSortCmpFunc_int ap0_1 np0_1 cp0_1 xp1_2 xp2_3 vp3_4 h R) : CallsH PP fn_slices_insertionSortCmpFunc_int [.slice ap0_1 np0_1 cp0_1, .int .i64 xp1_2, .int .i64 xp2_3, vp3_4] h R :=
  callsH_of X0ok Try.func225 (by kernel_rfl) plan_slices_insertionSortCmpFunc_int [.l (.sl ap0_1 np0_1 cp0_1), .l (.int .i64 xp1_2), .l (.int .i64 xp2_3), .l (.any vp3_4)] (Eq.mpr (congrFun (congrFun (congrFun (congrFun (congrFun (congrFun (congrFun (congrFun tie_slices_insertionSortCmpFunc_int ap0_1) np0_1) cp0_1) xp1_2) xp2_3) vp3_4) h) R) hm)
/- 226: slices.symMergeCmpFunc[int] -/
def M_slices_symMergeCmpFunc_int (ap0_1 : Option Addr) (np0_1 cp0_1 : Nat) (xp1_2 : Int) (xp2_3 : Int) (xp3_4 : Int) (vp4_5 : Value) (h : Heap) (R : Value → Heap → Prop) : Prop :=
  (((((IntKind.i64.wrap (xp2_3 - xp1_2)) : Int) == 1) = true →
    ∃ (I6 : List Value → Heap → Prop) (μ6 : List Value → Heap → Nat), I6 [.int .i64 xp2_3, .int .i64 xp3_4] h ∧
    ∀ h6 : Heap, ∀ (x10_7 : Int), ∀ (x11_8 : Int), I6 [.int .i64 x10_7, .int .i64 x11_8] h6 →
      (((decide ((x10_7 : Int) < x11_8)) = true →
        (0 : Int) ≤ 1 ∧
        ∃ (b43_9 o43_9 : Nat), ap0_1 = some ⟨b43_9, o43_9, none⟩ ∧ (0 : Int) ≤ IntKind.i64.wrap (Int.fdiv (IntKind.u64.wrap (IntKind.i64.wrap (x10_7 + x11_8))) (2 ^ min 1 (IntKind.bits .u64))) ∧ (IntKind.i64.wrap (Int.fdiv (IntKind.u64.wrap (IntKind.i64.wrap (x10_7 + x11_8))) (2 ^ min 1 (IntKind.bits .u64))) : Int) < ((np0_1 : Nat) : Int) ∧
        ∃ (x44_10 : Int), cellAt h6 b43_9 (o43_9 + ((IntKind.i64.wrap (Int.fdiv (IntKind.u64.wrap (IntKind.i64.wrap (x10_7 + x11_8))) (2 ^ min 1 (IntKind.bits .u64)))).toNat)) = some (.int .i64 x44_10) ∧
        ∃ (b47_11 o47_11 : Nat), ap0_1 = some ⟨b47_11, o47_11, none⟩ ∧ (0 : Int) ≤ xp1_2 ∧ (xp1_2 : Int) < ((np0_1 : Nat) : Int) ∧
        ∃ (x48_12 : Int), cellAt h6 b47_11 (o47_11 + xp1_2.toNat) = some (.int .i64 x48_12) ∧
        ∃ (g13 : FuncId) (k13 : List Value), vp4_5 = .func (.func g13) #[] ⟨k13⟩ ∧ Callable PP g13 ∧ CallsH PP g13 ([.int .i64 x44_10, .int .i64 x48_12] ++ k13) h6 fun (v13 : Value) (h13 : Heap) =>
        ∃ (x49_14 : Int), v13 = .int .i64 x49_14 ∧
        (((decide ((x49_14 : Int) < 0)) = true →
          I6 [.int .i64 (IntKind.i64.wrap ((IntKind.i64.wrap (Int.fdiv (IntKind.u64.wrap (IntKind.i64.wrap (x10_7 + x11_8))) (2 ^ min 1 (IntKind.bits .u64)))) + 1)), .int .i64 x11_8] h13 ∧ μ6 [.int .i64 (IntKind.i64.wrap ((IntKind.i64.wrap (Int.fdiv (IntKind.u64.wrap (IntKind.i64.wrap (x10_7 + x11_8))) (2 ^ min 1 (IntKind.bits .u64)))) + 1)), .int .i64 x11_8] h13 < μ6 [.int .i64 x10_7, .int .i64 x11_8] h6) ∧
        ((decide ((x49_14 : Int) < 0)) = false →
          I6 [.int .i64 x10_7, .int .i64 (IntKind.i64.wrap (Int.fdiv (IntKind.u64.wrap (IntKind.i64.wrap (x10_7 + x11_8))) (2 ^ min 1 (IntKind.bits .u64))))] h13 ∧ μ6 [.int .i64 x10_7, .int .i64 (IntKind.i64.wrap (Int.fdiv (IntKind.u64.wrap (IntKind.i64.wrap (x10_7 + x11_8))) (2 ^ min 1 (IntKind.bits .u64))))] h13 < μ6 [.int .i64 x10_7, .int .i64 x11_8] h6))) ∧
      ((decide ((x10_7 : Int) < x11_8)) = false →
        ∃ (I15 : List Value → Heap → Prop) (μ15 : List Value → Heap → Nat), I15 [.int .i64 xp1_2] h6 ∧
        ∀ h15 : Heap, ∀ (x13_16 : Int), I15 [.int .i64 x13_16] h15 →
          (((decide ((x13_16 : Int) < (IntKind.i64.wrap (x10_7 - 1)))) = true →
            ∃ (b69_17 o69_17 : Nat), ap0_1 = some ⟨b69_17, o69_17, none⟩ ∧ (0 : Int) ≤ IntKind.i64.wrap (x13_16 + 1) ∧ (IntKind.i64.wrap (x13_16 + 1) : Int) < ((np0_1 : Nat) : Int) ∧
            ∃ (x70_18 : Int), cellAt h15 b69_17 (o69_17 + ((IntKind.i64.wrap (x13_16 + 1)).toNat)) = some (.int .i64 x70_18) ∧
            ∃ (b73_19 o73_19 : Nat), ap0_1 = some ⟨b73_19, o73_19, none⟩ ∧ (0 : Int) ≤ x13_16 ∧ (x13_16 : Int) < ((np0_1 : Nat) : Int) ∧
            ∃ (x74_20 : Int), cellAt h15 b73_19 (o73_19 + x13_16.toNat) = some (.int .i64 x74_20) ∧
            ∃ (b75_21 o75_21 : Nat), ap0_1 = some ⟨b75_21, o75_21, none⟩ ∧ (0 : Int) ≤ x13_16 ∧ (x13_16 : Int) < ((np0_1 : Nat) : Int) ∧
            ∃ (e22 : TypeId) (c22 : List Value), Row h15 b75_21 e22 c22 ∧ o75_21 + x13_16.toNat < c22.length ∧
            ∀ h23 : Heap, h23 = putRow h15 b75_21 e22 (c22.set (o75_21 + x13_16.toNat) (.int .i64 x70_18)) →
            ∃ (b76_24 o76_24 : Nat), ap0_1 = some ⟨b76_24, o76_24, none⟩ ∧ (0 : Int) ≤ IntKind.i64.wrap (x13_16 + 1) ∧ (IntKind.i64.wrap (x13_16 + 1) : Int) < ((np0_1 : Nat) : Int) ∧
            ∃ (e25 : TypeId) (c25 : List Value), Row h23 b76_24 e25 c25 ∧ o76_24 + ((IntKind.i64.wrap (x13_16 + 1)).toNat) < c25.length ∧
            ∀ h26 : Heap, h26 = putRow h23 b76_24 e25 (c25.set (o76_24 + ((IntKind.i64.wrap (x13_16 + 1)).toNat)) (.int .i64 x74_20)) →
            I15 [.int .i64 (IntKind.i64.wrap (x13_16 + 1))] h26 ∧ μ15 [.int .i64 (IntKind.i64.wrap (x13_16 + 1))] h26 < μ15 [.int .i64 x13_16] h15) ∧
          ((decide ((x13_16 : Int) < (IntKind.i64.wrap (x10_7 - 1)))) = false →
            R (.tuple ⟨[]⟩) h15))))) ∧
  ((((IntKind.i64.wrap (xp2_3 - xp1_2)) : Int) == 1) = false →
    (((((IntKind.i64.wrap (xp3_4 - xp2_3)) : Int) == 1) = true →
      ∃ (I27 : List Value → Heap → Prop) (μ27 : List Value → Heap → Nat), I27 [.int .i64 xp1_2, .int .i64 xp2_3] h ∧
      ∀ h27 : Heap, ∀ (x14_28 : Int), ∀ (x15_29 : Int), I27 [.int .i64 x14_28, .int .i64 x15_29] h27 →
        (((decide ((x14_28 : Int) < x15_29)) = true →
          (0 : Int) ≤ 1 ∧
          ∃ (b95_30 o95_30 : Nat), ap0_1 = some ⟨b95_30, o95_30, none⟩ ∧ (0 : Int) ≤ xp2_3 ∧ (xp2_3 : Int) < ((np0_1 : Nat) : Int) ∧
          ∃ (x96_31 : Int), cellAt h27 b95_30 (o95_30 + xp2_3.toNat) = some (.int .i64 x96_31) ∧
          ∃ (b99_32 o99_32 : Nat), ap0_1 = some ⟨b99_32, o99_32, none⟩ ∧ (0 : Int) ≤ IntKind.i64.wrap (Int.fdiv (IntKind.u64.wrap (IntKind.i64.wrap (x14_28 + x15_29))) (2 ^ min 1 (IntKind.bits .u64))) ∧ (IntKind.i64.wrap (Int.fdiv (IntKind.u64.wrap (IntKind.i64.wrap (x14_28 + x15_29))) (2 ^ min 1 (IntKind.bits .u64))) : Int) < ((np0_1 : Nat) : Int) ∧
          ∃ (x100_33 : Int), cellAt h27 b99_32 (o99_32 + ((IntKind.i64.wrap (Int.fdiv (IntKind.u64.wrap (IntKind.i64.wrap (x14_28 + x15_29))) (2 ^ min 1 (IntKind.bits .u64)))).toNat)) = some (.int .i64 x100_33) ∧
          ∃ (g34 : FuncId) (k34 : List Value), vp4_5 = .func (.func g34) #[] ⟨k34⟩ ∧ Callable PP g34 ∧ CallsH PP g34 ([.int .i64 x96_31, .int .i64 x100_33] ++ k34) h27 fun (v34 : Value) (h34 : Heap) =>
          ∃ (x101_35 : Int), v34 = .int .i64 x101_35 ∧
          (((!(decide ((x101_35 : Int) < 0))) = true →
            I27 [.int .i64 (IntKind.i64.wrap ((IntKind.i64.wrap (Int.fdiv (IntKind.u64.wrap (IntKind.i64.wrap (x14_28 + x15_29))) (2 ^ min 1 (IntKind.bits .u64)))) + 1)), .int .i64 x15_29] h34 ∧ μ27 [.int .i64 (IntKind.i64.wrap ((IntKind.i64.wrap (Int.fdiv (IntKind.u64.wrap (IntKind.i64.wrap (x14_28 + x15_29))) (2 ^ min 1 (IntKind.bits .u64)))) + 1)), .int .i64 x15_29] h34 < μ27 [.int .i64 x14_28, .int .i64 x15_29] h27) ∧
          ((!(decide ((x101_35 : Int) < 0))) = false →
            I27 [.int .i64 x14_28, .int .i64 (IntKind.i64.wrap (Int.fdiv (IntKind.u64.wrap (IntKind.i64.wrap (x14_28 + x15_29))) (2 ^ min 1 (IntKind.bits .u64))))] h34 ∧ μ27 [.int .i64 x14_28, .int .i64 (IntKind.i64.wrap (Int.fdiv (IntKind.u64.wrap (IntKind.i64.wrap (x14_28 + x15_29))) (2 ^ min 1 (IntKind.bits .u64))))] h34 < μ27 [.int .i64 x14_28, .int .i64 x15_29] h27))) ∧
        ((decide ((x14_28 : Int) < x15_29)) = false →
          ∃ (I36 : List Value → Heap → Prop) (μ36 : List Value → Heap → Nat), I36 [.int .i64 xp2_3] h27 ∧
          ∀ h36 : Heap, ∀ (x17_37 : Int), I36 [.int .i64 x17_37] h36 →
            (((decide ((x17_37 : Int) > x14_28)) = true →
              ∃ (b121_38 o121_38 : Nat), ap0_1 = some ⟨b121_38, o121_38, none⟩ ∧ (0 : Int) ≤ IntKind.i64.wrap (x17_37 - 1) ∧ (IntKind.i64.wrap (x17_37 - 1) : Int) < ((np0_1 : Nat) : Int) ∧
              ∃ (x122_39 : Int), cellAt h36 b121_38 (o121_38 + ((IntKind.i64.wrap (x17_37 - 1)).toNat)) = some (.int .i64 x122_39) ∧
              ∃ (b125_40 o125_40 : Nat), ap0_1 = some ⟨b125_40, o125_40, none⟩ ∧ (0 : Int) ≤ x17_37 ∧ (x17_37 : Int) < ((np0_1 : Nat) : Int) ∧
              ∃ (x126_41 : Int), cellAt h36 b125_40 (o125_40 + x17_37.toNat) = some (.int .i64 x126_41) ∧
              ∃ (b127_42 o127_42 : Nat), ap0_1 = some ⟨b127_42, o127_42, none⟩ ∧ (0 : Int) ≤ x17_37 ∧ (x17_37 : Int) < ((np0_1 : Nat) : Int) ∧
              ∃ (e43 : TypeId) (c43 : List Value), Row h36 b127_42 e43 c43 ∧ o127_42 + x17_37.toNat < c43.length ∧
              ∀ h44 : Heap, h44 = putRow h36 b127_42 e43 (c43.set (o127_42 + x17_37.toNat) (.int .i64 x122_39)) →
              ∃ (b128_45 o128_45 : Nat), ap0_1 = some ⟨b128_45, o128_45, none⟩ ∧ (0 : Int) ≤ IntKind.i64.wrap (x17_37 - 1) ∧ (IntKind.i64.wrap (x17_37 - 1) : Int) < ((np0_1 : Nat) : Int) ∧
              ∃ (e46 : TypeId) (c46 : List Value), Row h44 b128_45 e46 c46 ∧ o128_45 + ((IntKind.i64.wrap (x17_37 - 1)).toNat) < c46.length ∧
              ∀ h47 : Heap, h47 = putRow h44 b128_45 e46 (c46.set (o128_45 + ((IntKind.i64.wrap (x17_37 - 1)).toNat)) (.int .i64 x126_41)) →
              I36 [.int .i64 (IntKind.i64.wrap (x17_37 - 1))] h47 ∧ μ36 [.int .i64 (IntKind.i64.wrap (x17_37 - 1))] h47 < μ36 [.int .i64 x17_37] h36) ∧
            ((decide ((x17_37 : Int) > x14_28)) = false →
              R (.tuple ⟨[]⟩) h36))))) ∧
    ((((IntKind.i64.wrap (xp3_4 - xp2_3)) : Int) == 1) = false →
      (0 : Int) ≤ 1 ∧
      ∀ (K48 : List Value → Heap → Prop), (∀ h48 : Heap, ∀ (x20_49 : Int), ∀ (x21_50 : Int), (
        ∃ (I51 : List Value → Heap → Prop) (μ51 : List Value → Heap → Nat), I51 [.int .i64 x20_49, .int .i64 x21_50] h48 ∧
        ∀ h51 : Heap, ∀ (x20_52 : Int), ∀ (x21_53 : Int), I51 [.int .i64 x20_52, .int .i64 x21_53] h51 →
          (((decide ((x20_52 : Int) < x21_53)) = true →
            (0 : Int) ≤ 1 ∧
            ∃ (b163_54 o163_54 : Nat), ap0_1 = some ⟨b163_54, o163_54, none⟩ ∧ (0 : Int) ≤ IntKind.i64.wrap ((IntKind.i64.wrap ((IntKind.i64.wrap ((IntKind.i64.wrap (Int.fdiv (IntKind.u64.wrap (IntKind.i64.wrap (xp1_2 + xp3_4))) (2 ^ min 1 (IntKind.bits .u64)))) + xp2_3)) - 1)) - (IntKind.i64.wrap (Int.fdiv (IntKind.u64.wrap (IntKind.i64.wrap (x20_52 + x21_53))) (2 ^ min 1 (IntKind.bits .u64))))) ∧ (IntKind.i64.wrap ((IntKind.i64.wrap ((IntKind.i64.wrap ((IntKind.i64.wrap (Int.fdiv (IntKind.u64.wrap (IntKind.i64.wrap (xp1_2 + xp3_4))) (2 ^ min 1 (IntKind.bits .u64)))) + xp2_3)) - 1)) - (IntKind.i64.wrap (Int.fdiv (IntKind.u64.wrap (IntKind.i64.wrap (x20_52 + x21_53))) (2 ^ min 1 (IntKind.bits .u64))))) : Int) < ((np0_1 : Nat) : Int) ∧
            ∃ (x164_55 : Int), cellAt h51 b163_54 (o163_54 + ((IntKind.i64.wrap ((IntKind.i64.wrap ((IntKind.i64.wrap ((IntKind.i64.wrap (Int.fdiv (IntKind.u64.wrap (IntKind.i64.wrap (xp1_2 + xp3_4))) (2 ^ min 1 (IntKind.bits .u64)))) + xp2_3)) - 1)) - (IntKind.i64.wrap (Int.fdiv (IntKind.u64.wrap (IntKind.i64.wrap (x20_52 + x21_53))) (2 ^ min 1 (IntKind.bits .u64)))))).toNat)) = some (.int .i64 x164_55) ∧
            ∃ (b167_56 o167_56 : Nat), ap0_1 = some ⟨b167_56, o167_56, none⟩ ∧ (0 : Int) ≤ IntKind.i64.wrap (Int.fdiv (IntKind.u64.wrap (IntKind.i64.wrap (x20_52 + x21_53))) (2 ^ min 1 (IntKind.bits .u64))) ∧ (IntKind.i64.wrap (Int.fdiv (IntKind.u64.wrap (IntKind.i64.wrap (x20_52 + x21_53))) (2 ^ min 1 (IntKind.bits .u64))) : Int) < ((np0_1 : Nat) : Int) ∧
            ∃ (x168_57 : Int), cellAt h51 b167_56 (o167_56 + ((IntKind.i64.wrap (Int.fdiv (IntKind.u64.wrap (IntKind.i64.wrap (x20_52 + x21_53))) (2 ^ min 1 (IntKind.bits .u64)))).toNat)) = some (.int .i64 x168_57) ∧
            ∃ (g58 : FuncId) (k58 : List Value), vp4_5 = .func (.func g58) #[] ⟨k58⟩ ∧ Callable PP g58 ∧ CallsH PP g58 ([.int .i64 x164_55, .int .i64 x168_57] ++ k58) h51 fun (v58 : Value) (h58 : Heap) =>
            ∃ (x169_59 : Int), v58 = .int .i64 x169_59 ∧
            (((!(decide ((x169_59 : Int) < 0))) = true →
              I51 [.int .i64 (IntKind.i64.wrap ((IntKind.i64.wrap (Int.fdiv (IntKind.u64.wrap (IntKind.i64.wrap (x20_52 + x21_53))) (2 ^ min 1 (IntKind.bits .u64)))) + 1)), .int .i64 x21_53] h58 ∧ μ51 [.int .i64 (IntKind.i64.wrap ((IntKind.i64.wrap (Int.fdiv (IntKind.u64.wrap (IntKind.i64.wrap (x20_52 + x21_53))) (2 ^ min 1 (IntKind.bits .u64)))) + 1)), .int .i64 x21_53] h58 < μ51 [.int .i64 x20_52, .int .i64 x21_53] h51) ∧
            ((!(decide ((x169_59 : Int) < 0))) = false →
              I51 [.int .i64 x20_52, .int .i64 (IntKind.i64.wrap (Int.fdiv (IntKind.u64.wrap (IntKind.i64.wrap (x20_52 + x21_53))) (2 ^ min 1 (IntKind.bits .u64))))] h58 ∧ μ51 [.int .i64 x20_52, .int .i64 (IntKind.i64.wrap (Int.fdiv (IntKind.u64.wrap (IntKind.i64.wrap (x20_52 + x21_53))) (2 ^ min 1 (IntKind.bits .u64))))] h58 < μ51 [.int .i64 x20_52, .int .i64 x21_53] h51))) ∧
          ((decide ((x20_52 : Int) < x21_53)) = false →
            ∀ (K60 : List Value → Heap → Prop), (∀ h60 : Heap, (
              (((decide ((xp1_2 : Int) < x20_52)) = true →
                (((decide ((x20_52 : Int) < (IntKind.i64.wrap (Int.fdiv (IntKind.u64.wrap (IntKind.i64.wrap (xp1_2 + xp3_4))) (2 ^ min 1 (IntKind.bits .u64)))))) = true →
                  CallsH PP fn_slices_symMergeCmpFunc_int [.slice ap0_1 np0_1 cp0_1, .int .i64 xp1_2, .int .i64 x20_52, .int .i64 (IntKind.i64.wrap (Int.fdiv (IntKind.u64.wrap (IntKind.i64.wrap (xp1_2 + xp3_4))) (2 ^ min 1 (IntKind.bits .u64)))), vp4_5] h60 fun (v61 : Value) (h61 : Heap) =>
                  v61 = .tuple ⟨[]⟩ ∧
                  (((decide (((IntKind.i64.wrap (Int.fdiv (IntKind.u64.wrap (IntKind.i64.wrap (xp1_2 + xp3_4))) (2 ^ min 1 (IntKind.bits .u64)))) : Int) < (IntKind.i64.wrap ((IntKind.i64.wrap ((IntKind.i64.wrap (Int.fdiv (IntKind.u64.wrap (IntKind.i64.wrap (xp1_2 + xp3_4))) (2 ^ min 1 (IntKind.bits .u64)))) + xp2_3)) - x20_52)))) = true →
                    (((decide (((IntKind.i64.wrap ((IntKind.i64.wrap ((IntKind.i64.wrap (Int.fdiv (IntKind.u64.wrap (IntKind.i64.wrap (xp1_2 + xp3_4))) (2 ^ min 1 (IntKind.bits .u64)))) + xp2_3)) - x20_52)) : Int) < xp3_4)) = true →
                      CallsH PP fn_slices_symMergeCmpFunc_int [.slice ap0_1 np0_1 cp0_1, .int .i64 (IntKind.i64.wrap (Int.fdiv (IntKind.u64.wrap (IntKind.i64.wrap (xp1_2 + xp3_4))) (2 ^ min 1 (IntKind.bits .u64)))), .int .i64 (IntKind.i64.wrap ((IntKind.i64.wrap ((IntKind.i64.wrap (Int.fdiv (IntKind.u64.wrap (IntKind.i64.wrap (xp1_2 + xp3_4))) (2 ^ min 1 (IntKind.bits .u64)))) + xp2_3)) - x20_52)), .int .i64 xp3_4, vp4_5] h61 fun (v62 : Value) (h62 : Heap) =>
                      v62 = .tuple ⟨[]⟩ ∧
                      R (.tuple ⟨[]⟩) h62) ∧
                    ((decide (((IntKind.i64.wrap ((IntKind.i64.wrap ((IntKind.i64.wrap (Int.fdiv (IntKind.u64.wrap (IntKind.i64.wrap (xp1_2 + xp3_4))) (2 ^ min 1 (IntKind.bits .u64)))) + xp2_3)) - x20_52)) : Int) < xp3_4)) = false →
                      R (.tuple ⟨[]⟩) h61))) ∧
                  ((decide (((IntKind.i64.wrap (Int.fdiv (IntKind.u64.wrap (IntKind.i64.wrap (xp1_2 + xp3_4))) (2 ^ min 1 (IntKind.bits .u64)))) : Int) < (IntKind.i64.wrap ((IntKind.i64.wrap ((IntKind.i64.wrap (Int.fdiv (IntKind.u64.wrap (IntKind.i64.wrap (xp1_2 + xp3_4))) (2 ^ min 1 (IntKind.bits .u64)))) + xp2_3)) - x20_52)))) = false →
                    R (.tuple ⟨[]⟩) h61))) ∧
                ((decide ((x20_52 : Int) < (IntKind.i64.wrap (Int.fdiv (IntKind.u64.wrap (IntKind.i64.wrap (xp1_2 + xp3_4))) (2 ^ min 1 (IntKind.bits .u64)))))) = false →
                  (((decide (((IntKind.i64.wrap (Int.fdiv (IntKind.u64.wrap (IntKind.i64.wrap (xp1_2 + xp3_4))) (2 ^ min 1 (IntKind.bits .u64)))) : Int) < (IntKind.i64.wrap ((IntKind.i64.wrap ((IntKind.i64.wrap (Int.fdiv (IntKind.u64.wrap (IntKind.i64.wrap (xp1_2 + xp3_4))) (2 ^ min 1 (IntKind.bits .u64)))) + xp2_3)) - x20_52)))) = true →
                    (((decide (((IntKind.i64.wrap ((IntKind.i64.wrap ((IntKind.i64.wrap (Int.fdiv (IntKind.u64.wrap (IntKind.i64.wrap (xp1_2 + xp3_4))) (2 ^ min 1 (IntKind.bits .u64)))) + xp2_3)) - x20_52)) : Int) < xp3_4)) = true →
                      CallsH PP fn_slices_symMergeCmpFunc_int [.slice ap0_1 np0_1 cp0_1, .int .i64 (IntKind.i64.wrap (Int.fdiv (IntKind.u64.wrap (IntKind.i64.wrap (xp1_2 + xp3_4))) (2 ^ min 1 (IntKind.bits .u64)))), .int .i64 (IntKind.i64.wrap ((IntKind.i64.wrap ((IntKind.i64.wrap (Int.fdiv (IntKind.u64.wrap (IntKind.i64.wrap (xp1_2 + xp3_4))) (2 ^ min 1 (IntKind.bits .u64)))) + xp2_3)) - x20_52)), .int .i64 xp3_4, vp4_5] h60 fun (v63 : Value) (h63 : Heap) =>
                      v63 = .tuple ⟨[]⟩ ∧
                      R (.tuple ⟨[]⟩) h63) ∧
                    ((decide (((IntKind.i64.wrap ((IntKind.i64.wrap ((IntKind.i64.wrap (Int.fdiv (IntKind.u64.wrap (IntKind.i64.wrap (xp1_2 + xp3_4))) (2 ^ min 1 (IntKind.bits .u64)))) + xp2_3)) - x20_52)) : Int) < xp3_4)) = false →
                      R (.tuple ⟨[]⟩) h60))) ∧
                  ((decide (((IntKind.i64.wrap (Int.fdiv (IntKind.u64.wrap (IntKind.i64.wrap (xp1_2 + xp3_4))) (2 ^ min 1 (IntKind.bits .u64)))) : Int) < (IntKind.i64.wrap ((IntKind.i64.wrap ((IntKind.i64.wrap (Int.fdiv (IntKind.u64.wrap (IntKind.i64.wrap (xp1_2 + xp3_4))) (2 ^ min 1 (IntKind.bits .u64)))) + xp2_3)) - x20_52)))) = false →
                    R (.tuple ⟨[]⟩) h60))))) ∧
              ((decide ((xp1_2 : Int) < x20_52)) = false →
                (((decide (((IntKind.i64.wrap (Int.fdiv (IntKind.u64.wrap (IntKind.i64.wrap (xp1_2 + xp3_4))) (2 ^ min 1 (IntKind.bits .u64)))) : Int) < (IntKind.i64.wrap ((IntKind.i64.wrap ((IntKind.i64.wrap (Int.fdiv (IntKind.u64.wrap (IntKind.i64.wrap (xp1_2 + xp3_4))) (2 ^ min 1 (IntKind.bits .u64)))) + xp2_3)) - x20_52)))) = true →
                  (((decide (((IntKind.i64.wrap ((IntKind.i64.wrap ((IntKind.i64.wrap (Int.fdiv (IntKind.u64.wrap (IntKind.i64.wrap (xp1_2 + xp3_4))) (2 ^ min 1 (IntKind.bits .u64)))) + xp2_3)) - x20_52)) : Int) < xp3_4)) = true →
                    CallsH PP fn_slices_symMergeCmpFunc_int [.slice ap0_1 np0_1 cp0_1, .int .i64 (IntKind.i64.wrap (Int.fdiv (IntKind.u64.wrap (IntKind.i64.wrap (xp1_2 + xp3_4))) (2 ^ min 1 (IntKind.bits .u64)))), .int .i64 (IntKind.i64.wrap ((IntKind.i64.wrap ((IntKind.i64.wrap (Int.fdiv (IntKind.u64.wrap (IntKind.i64.wrap (xp1_2 + xp3_4))) (2 ^ min 1 (IntKind.bits .u64)))) + xp2_3)) - x20_52)), .int .i64 xp3_4, vp4_5] h60 fun (v64 : Value) (h64 : Heap) =>
                    v64 = .tuple ⟨[]⟩ ∧
                    R (.tuple ⟨[]⟩) h64) ∧
                  ((decide (((IntKind.i64.wrap ((IntKind.i64.wrap ((IntKind.i64.wrap (Int.fdiv (IntKind.u64.wrap (IntKind.i64.wrap (xp1_2 + xp3_4))) (2 ^ min 1 (IntKind.bits .u64)))) + xp2_3)) - x20_52)) : Int) < xp3_4)) = false →
                    R (.tuple ⟨[]⟩) h60))) ∧
                ((decide (((IntKind.i64.wrap (Int.fdiv (IntKind.u64.wrap (IntKind.i64.wrap (xp1_2 + xp3_4))) (2 ^ min 1 (IntKind.bits .u64)))) : Int) < (IntKind.i64.wrap ((IntKind.i64.wrap ((IntKind.i64.wrap (Int.fdiv (IntKind.u64.wrap (IntKind.i64.wrap (xp1_2 + xp3_4))) (2 ^ min 1 (IntKind.bits .u64)))) + xp2_3)) - x20_52)))) = false →
                  R (.tuple ⟨[]⟩) h60))))) → K60 [] h60) →
            (((decide ((x20_52 : Int) < xp2_3)) = true →
              (((decide ((xp2_3 : Int) < (IntKind.i64.wrap ((IntKind.i64.wrap ((IntKind.i64.wrap (Int.fdiv (IntKind.u64.wrap (IntKind.i64.wrap (xp1_2 + xp3_4))) (2 ^ min 1 (IntKind.bits .u64)))) + xp2_3)) - x20_52)))) = true →
                CallsH PP fn_slices_rotateCmpFunc_int [.slice ap0_1 np0_1 cp0_1, .int .i64 x20_52, .int .i64 xp2_3, .int .i64 (IntKind.i64.wrap ((IntKind.i64.wrap ((IntKind.i64.wrap (Int.fdiv (IntKind.u64.wrap (IntKind.i64.wrap (xp1_2 + xp3_4))) (2 ^ min 1 (IntKind.bits .u64)))) + xp2_3)) - x20_52)), vp4_5] h51 fun (v65 : Value) (h65 : Heap) =>
                v65 = .tuple ⟨[]⟩ ∧
                K60 [] h65) ∧
              ((decide ((xp2_3 : Int) < (IntKind.i64.wrap ((IntKind.i64.wrap ((IntKind.i64.wrap (Int.fdiv (IntKind.u64.wrap (IntKind.i64.wrap (xp1_2 + xp3_4))) (2 ^ min 1 (IntKind.bits .u64)))) + xp2_3)) - x20_52)))) = false →
                K60 [] h51))) ∧
            ((decide ((x20_52 : Int) < xp2_3)) = false →
              K60 [] h51))))) → K48 [.int .i64 x20_49, .int .i64 x21_50] h48) →
      (((decide ((xp2_3 : Int) > (IntKind.i64.wrap (Int.fdiv (IntKind.u64.wrap (IntKind.i64.wrap (xp1_2 + xp3_4))) (2 ^ min 1 (IntKind.bits .u64)))))) = true →
        K48 [.int .i64 (IntKind.i64.wrap ((IntKind.i64.wrap ((IntKind.i64.wrap (Int.fdiv (IntKind.u64.wrap (IntKind.i64.wrap (xp1_2 + xp3_4))) (2 ^ min 1 (IntKind.bits .u64)))) + xp2_3)) - xp3_4)), .int .i64 (IntKind.i64.wrap (Int.fdiv (IntKind.u64.wrap (IntKind.i64.wrap (xp1_2 + xp3_4))) (2 ^ min 1 (IntKind.bits .u64))))] h) ∧
      ((decide ((xp2_3 : Int) > (IntKind.i64.wrap (Int.fdiv (IntKind.u64.wrap (IntKind.i64.wrap (xp1_2 + xp3_4))) (2 ^ min 1 (IntKind.bits .u64)))))) = false →
        K48 [.int .i64 xp1_2, .int .i64 xp2_3] h))))))
def plan_slices_symMergeCmpFunc_int : Plan := .seq none (.seq none (.leaf) (.cond (.seq none (.leaf) (.seq none (.leaf) (.seq none (.block (.loop [(10, .l (.int .i64)), (11, .l (.int .i64))] (.seq none (.seq none (.leaf) (.cond (.leaf) (.leaf))) (.block (.seq none (.leaf) (.seq none (.draw (.op 0 (.op 1 (.op 2 (.op 3 (.op 4 (.op 5 (.op 6 (.op 7 (.op 8 (.op 9 (.op 10 .done)))))))))))) (.cond (.leaf) (.leaf)))))))) (.seq none (.seq none (.leaf) (.block (.loop [(13, .l (.int .i64))] (.seq none (.seq none (.leaf) (.cond (.leaf) (.leaf))) (.seq none (.block (.draw (.op 0 (.op 1 (.op 2 (.op 3 (.op 4 (.op 5 (.op 6 (.op 7 (.op 8 (.op 9 (.op 10 (.op 11 (.op 12 (.op 13 (.op 14 (.op 15 (.op 16 (.op 17 .done)))))))))))))))))))) (.leaf)))))) (.leaf))))) (.leaf))) (.seq none (.seq none (.leaf) (.cond (.seq none (.leaf) (.seq none (.leaf) (.seq none (.block (.loop [(14, .l (.int .i64)), (15, .l (.int .i64))] (.seq none (.seq none (.leaf) (.cond (.leaf) (.leaf))) (.block (.seq none (.leaf) (.seq none (.draw (.op 0 (.op 1 (.op 2 (.op 3 (.op 4 (.op 5 (.op 6 (.op 7 (.op 8 (.op 9 (.op 10 (.op 11 .done))))))))))))) (.cond (.leaf) (.leaf)))))))) (.seq none (.seq none (.leaf) (.block (.loop [(17, .l (.int .i64))] (.seq none (.seq none (.leaf) (.cond (.leaf) (.leaf))) (.seq none (.block (.draw (.op 0 (.op 1 (.op 2 (.op 3 (.op 4 (.op 5 (.op 6 (.op 7 (.op 8 (.op 9 (.op 10 (.op 11 (.op 12 (.op 13 (.op 14 (.op 15 (.op 16 (.op 17 .done)))))))))))))))))))) (.leaf)))))) (.leaf))))) (.leaf))) (.seq none (.leaf) (.seq none (.leaf) (.seq none (.leaf) (.seq (some [(20, .l (.int .i64)), (21, .l (.int .i64))]) (.seq none (.leaf) (.cond (.seq none (.leaf) (.leaf)) (.seq none (.leaf) (.leaf)))) (.seq none (.leaf) (.seq none (.block (.loop [(20, .l (.int .i64)), (21, .l (.int .i64))] (.seq none (.seq none (.leaf) (.cond (.leaf) (.leaf))) (.block (.seq none (.leaf) (.seq none (.draw (.op 0 (.op 1 (.op 2 (.op 3 (.op 4 (.op 5 (.op 6 (.op 7 (.op 8 (.op 9 (.op 10 (.op 11 (.op 12 (.op 13 .done))))))))))))))) (.cond (.leaf) (.leaf)))))))) (.seq none (.leaf) (.seq (some []) (.seq none (.leaf) (.cond (.leaf) (.leaf))) (.seq none (.seq none (.leaf) (.cond (.leaf) (.leaf))) (.seq none (.leaf) (.cond (.leaf) (.leaf)))))))))))))
theorem tie_slices_symMergeCmpFunc_int : (fun (ap0_1 : Option Addr) (np0_1 cp0_1 : Nat) (xp1_2 : Int) (xp2_3 : Int) (xp3_4 : Int) (vp4_5 : Value) (h : Heap) (R : Value → Heap → Prop) => denF X0 Try.f226 (bodyOf Try.f226) plan_slices_symMergeCmpFunc_int [.l (.sl ap0_1 np0_1 cp0_1), .l (.int .i64 xp1_2), .l (.int .i64 xp2_3), .l (.int .i64 xp3_4), .l (.any vp4_5)] h R) = M_slices_symMergeCmpFunc_int := by kernel_rfl
theorem calls_slices_symMergeCmpFunc_int (ap0_1 : Option Addr) (np0_1 cp0_1 : Nat) (xp1_2 : Int) (xp2_3 : Int) (xp3_4 : Int) (vp4_5 : Value) {h : Heap} {R : Value → Heap → Prop} (hm : M_slices_symMergeCmpFunc_int ap0_1 np0_1 cp0_1 xp1_2 xp2_3 xp3_4 vp4_5 h R) : CallsH PP fn_slices_symMergeCmpFunc_int [.slice ap0_1 np0_1 cp0_1, .int .i64 xp1_2, .int .i64 xp2_3, .int .i64 xp3_4, vp4_5] h R :=
  callsH_of X0ok Try.func226 (by kernel_rfl) plan_slices_symMergeCmpFunc_int [.l (.sl ap0_1 np0_1 cp0_1), .l (.int .i64 xp1_2), .l (.int .i64 xp2_3), .l (.int .i64 xp3_4), .l (.any vp4_5)] (Eq.mpr (congrFun (congrFun (congrFun (congrFun (congrFun (congrFun (congrFun (congrFun (congrFun tie_slices_symMergeCmpFunc_int ap0_1) np0_1) cp0_1) xp1_2) xp2_3) xp3_4) vp4_5) h) R) hm)
/- 253: slices.rotateCmpFunc[int] -/
def M_slices_rotateCmpFunc_int (ap0_1 : Option Addr) (np0_1 cp0_1 : Nat) (xp1_2 : Int) (xp2_3 : Int) (xp3_4 : Int) (vp4_5 : Value) (h : Heap) (R : Value → Heap → Prop) : Prop :=
  ∃ (I6 : List Value → Heap → Prop) (μ6 : List Value → Heap → Nat), I6 [.int .i64 (IntKind.i64.wrap (xp2_3 - xp1_2)), .int .i64 (IntKind.i64.wrap (xp3_4 - xp2_3))] h ∧
  ∀ h6 : Heap, ∀ (x10_7 : Int), ∀ (x11_8 : Int), I6 [.int .i64 x10_7, .int .i64 x11_8] h6 →
    ((((x10_7 : Int) != x11_8) = true →
      (((decide ((x10_7 : Int) > x11_8)) = true →
        CallsH PP fn_slices_swapRangeCmpFunc_int [.slice ap0_1 np0_1 cp0_1, .int .i64 (IntKind.i64.wrap (xp2_3 - x10_7)), .int .i64 xp2_3, .int .i64 x11_8, vp4_5] h6 fun (v9 : Value) (h9 : Heap) =>
        v9 = .tuple ⟨[]⟩ ∧
        I6 [.int .i64 (IntKind.i64.wrap (x10_7 - x11_8)), .int .i64 x11_8] h9 ∧ μ6 [.int .i64 (IntKind.i64.wrap (x10_7 - x11_8)), .int .i64 x11_8] h9 < μ6 [.int .i64 x10_7, .int .i64 x11_8] h6) ∧
      ((decide ((x10_7 : Int) > x11_8)) = false →
        CallsH PP fn_slices_swapRangeCmpFunc_int [.slice ap0_1 np0_1 cp0_1, .int .i64 (IntKind.i64.wrap (xp2_3 - x10_7)), .int .i64 (IntKind.i64.wrap ((IntKind.i64.wrap (xp2_3 + x11_8)) - x10_7)), .int .i64 x10_7, vp4_5] h6 fun (v10 : Value) (h10 : Heap) =>
        v10 = .tuple ⟨[]⟩ ∧
        I6 [.int .i64 x10_7, .int .i64 (IntKind.i64.wrap (x11_8 - x10_7))] h10 ∧ μ6 [.int .i64 x10_7, .int .i64 (IntKind.i64.wrap (x11_8 - x10_7))] h10 < μ6 [.int .i64 x10_7, .int .i64 x11_8] h6))) ∧
    (((x10_7 : Int) != x11_8) = false →
      CallsH PP fn_slices_swapRangeCmpFunc_int [.slice ap0_1 np0_1 cp0_1, .int .i64 (IntKind.i64.wrap (xp2_3 - x10_7)), .int .i64 xp2_3, .int .i64 x10_7, vp4_5] h6 fun (v11 : Value) (h11 : Heap) =>
      v11 = .tuple ⟨[]⟩ ∧
      R (.tuple ⟨[]⟩) h11))
def plan_slices_rotateCmpFunc_int : Plan := .seq none (.leaf) (.seq none (.leaf) (.seq none (.block (.loop [(10, .l (.int .i64)), (11, .l (.int .i64))] (.seq none (.seq none (.leaf) (.cond (.leaf) (.leaf))) (.block (.seq none (.leaf) (.cond (.seq none (.leaf) (.leaf)) (.seq none (.leaf) (.leaf)))))))) (.leaf)))
theorem tie_slices_rotateCmpFunc_int : (fun (ap0_1 : Option Addr) (np0_1 cp0_1 : Nat) (xp1_2 : Int) (xp2_3 : Int) (xp3_4 : Int) (vp4_5 : Value) (h : Heap) (R : Value → Heap → Prop) => denF X0 Try.f253 (bodyOf Try.f253) plan_slices_rotateCmpFunc_int [.l (.sl ap0_1 np0_1 cp0_1), .l (.int .i64 xp1_2), .l (.int .i64 xp2_3), .l (.int .i64 xp3_4), .l (.any vp4_5)] h R) = M_slices_rotateCmpFunc_int := by kernel_rfl
theorem calls_slices_rotateCmpFunc_int (ap0_1 : Option Addr) (np0_1 cp0_1 : Nat) (xp1_2 : Int) (xp2_3 : Int) (xp3_4 : Int) (vp4_5 : Value) {h : Heap} {R : Value → Heap → Prop} (hm : M_slices_rotateCmpFunc_int ap0_1 np0_1 cp0_1 xp1_2 xp2_3 xp3_4 vp4_5 h R) : CallsH PP fn_slices_rotateCmpFunc_int [.slice ap0_1 np0_1 cp0_1, .int .i64 xp1_2, .int .i64 xp2_3, .int .i64 xp3_4, vp4_5] h R :=
  callsH_of X0ok Try.func253 (by kernel_rfl) plan_slices_rotateCmpFunc_int [.l (.sl ap0_1 np0_1 cp0_1), .l (.int .i64 xp1_2), .l (.int .i64 xp2_3), .l (.int .i64 xp3_4), .l (.any vp4_5)] (Eq.mpr (congrFun (congrFun (congrFun (congrFun (congrFun (congrFun (congrFun (congrFun (congrFun tie_slices_rotateCmpFunc_int ap0_1) np0_1) cp0_1) xp1_2) xp2_3) xp3_4) vp4_5) h) R) hm)
/- 263: slices.swapRangeCmpFunc[int] -/
def M_slices_swapRangeCmpFunc_int (ap0_1 : Option Addr) (np0_1 cp0_1 : Nat) (xp1_2 : Int) (xp2_3 : Int) (xp3_4 : Int) (vp4_5 : Value) (h : Heap) (R : Value → Heap → Prop) : Prop :=
  ∃ (I6 : List Value → Heap → Prop) (μ6 : List Value → Heap → Nat), I6 [.int .i64 0] h ∧
  ∀ h6 : Heap, ∀ (x10_7 : Int), I6 [.int .i64 x10_7] h6 →
    (((decide ((x10_7 : Int) < xp3_4)) = true →
      ∃ (b28_8 o28_8 : Nat), ap0_1 = some ⟨b28_8, o28_8, none⟩ ∧ (0 : Int) ≤ IntKind.i64.wrap (xp2_3 + x10_7) ∧ (IntKind.i64.wrap (xp2_3 + x10_7) : Int) < ((np0_1 : Nat) : Int) ∧
      ∃ (x29_9 : Int), cellAt h6 b28_8 (o28_8 + ((IntKind.i64.wrap (xp2_3 + x10_7)).toNat)) = some (.int .i64 x29_9) ∧
      ∃ (b34_10 o34_10 : Nat), ap0_1 = some ⟨b34_10, o34_10, none⟩ ∧ (0 : Int) ≤ IntKind.i64.wrap (xp1_2 + x10_7) ∧ (IntKind.i64.wrap (xp1_2 + x10_7) : Int) < ((np0_1 : Nat) : Int) ∧
      ∃ (x35_11 : Int), cellAt h6 b34_10 (o34_10 + ((IntKind.i64.wrap (xp1_2 + x10_7)).toNat)) = some (.int .i64 x35_11) ∧
      ∃ (b36_12 o36_12 : Nat), ap0_1 = some ⟨b36_12, o36_12, none⟩ ∧ (0 : Int) ≤ IntKind.i64.wrap (xp1_2 + x10_7) ∧ (IntKind.i64.wrap (xp1_2 + x10_7) : Int) < ((np0_1 : Nat) : Int) ∧
      ∃ (e13 : TypeId) (c13 : List Value), Row h6 b36_12 e13 c13 ∧ o36_12 + ((IntKind.i64.wrap (xp1_2 + x10_7)).toNat) < c13.length ∧
      ∀ h14 : Heap, h14 = putRow h6 b36_12 e13 (c13.set (o36_12 + ((IntKind.i64.wrap (xp1_2 + x10_7)).toNat)) (.int .i64 x29_9)) →
      ∃ (b37_15 o37_15 : Nat), ap0_1 = some ⟨b37_15, o37_15, none⟩ ∧ (0 : Int) ≤ IntKind.i64.wrap (xp2_3 + x10_7) ∧ (IntKind.i64.wrap (xp2_3 + x10_7) : Int) < ((np0_1 : Nat) : Int) ∧
      ∃ (e16 : TypeId) (c16 : List Value), Row h14 b37_15 e16 c16 ∧ o37_15 + ((IntKind.i64.wrap (xp2_3 + x10_7)).toNat) < c16.length ∧
      ∀ h17 : Heap, h17 = putRow h14 b37_15 e16 (c16.set (o37_15 + ((IntKind.i64.wrap (xp2_3 + x10_7)).toNat)) (.int .i64 x35_11)) →
      I6 [.int .i64 (IntKind.i64.wrap (x10_7 + 1))] h17 ∧ μ6 [.int .i64 (IntKind.i64.wrap (x10_7 + 1))] h17 < μ6 [.int .i64 x10_7] h6) ∧
    ((decide ((x10_7 : Int) < xp3_4)) = false →
      R (.tuple ⟨[]⟩) h6))
def plan_slices_swapRangeCmpFunc_int : Plan := .seq none (.leaf) (.block (.loop [(10, .l (.int .i64))] (.seq none (.seq none (.leaf) (.cond (.leaf) (.leaf))) (.seq none (.block (.draw (.op 0 (.op 1 (.op 2 (.op 3 (.op 4 (.op 5 (.op 6 (.op 7 (.op 8 (.op 9 (.op 10 (.op 11 (.op 12 (.op 13 (.op 14 (.op 15 (.op 16 (.op 17 (.op 18 (.op 19 (.op 20 (.op 21 (.op 22 (.op 23 .done)))))))))))))))))))))))))) (.leaf)))))
theorem tie_slices_swapRangeCmpFunc_int : (fun (ap0_1 : Option Addr) (np0_1 cp0_1 : Nat) (xp1_2 : Int) (xp2_3 : Int) (xp3_4 : Int) (vp4_5 : Value) (h : Heap) (R : Value → Heap → Prop) => denF X0 Try.f263 (bodyOf Try.f263) plan_slices_swapRangeCmpFunc_int [.l (.sl ap0_1 np0_1 cp0_1), .l (.int .i64 xp1_2), .l (.int .i64 xp2_3), .l (.int .i64 xp3_4), .l (.any vp4_5)] h R) = M_slices_swapRangeCmpFunc_int := by kernel_rfl
theorem calls_slices_swapRangeCmpFunc_int (ap0_1 : Option Addr) (np0_1 cp0_1 : Nat) (xp1_2 : Int) (xp2_3 : Int) (xp3_4 : Int) (vp4_5 : Value) {h : Heap} {R : Value → Heap → Prop} (hm : M_slices_swapRangeCmpFunc_int ap0_1 np0_1 cp0_1 xp1_2 xp2_3 xp3_4 vp4_5 h R) : CallsH PP fn_slices_swapRangeCmpFunc_int [.slice ap0_1 np0_1 cp0_1, .int .i64 xp1_2, .int .i64 xp2_3, .int .i64 xp3_4, vp4_5] h R :=
  callsH_of X0ok Try.func263 (by kernel_rfl) plan_slices_swapRangeCmpFunc_int [.l (.sl ap0_1 np0_1 cp0_1), .l (.int .i64 xp1_2), .l (.int .i64 xp2_3), .l (.int .i64 xp3_4), .l (.any vp4_5)] (Eq.mpr (congrFun (congrFun (congrFun (congrFun (congrFun (congrFun (congrFun (congrFun (congrFun tie_slices_swapRangeCmpFunc_int ap0_1) np0_1) cp0_1) xp1_2) xp2_3) xp3_4) vp4_5) h) R) hm)
/- 122: impl.TopOf$1 -/
def M_impl_TopOf_1 (xp0_1 : Int) (xp1_2 : Int) (b2 o2 : Nat) (h : Heap) (R : Value → Heap → Prop) : Prop :=
  ∃ (a6_3 : Option Addr) (n6_3 c6_3 : Nat), cellAt h b2 o2 = some (.slice a6_3 n6_3 c6_3) ∧
  ∃ (b8_4 o8_4 : Nat), a6_3 = some ⟨b8_4, o8_4, none⟩ ∧ (0 : Int) ≤ xp1_2 ∧ (xp1_2 : Int) < ((n6_3 : Nat) : Int) ∧
  ∃ (x9_5 : Int), cellAt h b8_4 (o8_4 + xp1_2.toNat) = some (.int .i64 x9_5) ∧
  ∃ (a10_6 : Option Addr) (n10_6 c10_6 : Nat), cellAt h b2 o2 = some (.slice a10_6 n10_6 c10_6) ∧
  ∃ (b12_7 o12_7 : Nat), a10_6 = some ⟨b12_7, o12_7, none⟩ ∧ (0 : Int) ≤ xp0_1 ∧ (xp0_1 : Int) < ((n10_6 : Nat) : Int) ∧
  ∃ (x13_8 : Int), cellAt h b12_7 (o12_7 + xp0_1.toNat) = some (.int .i64 x13_8) ∧
  R (.int .i64 (IntKind.i64.wrap (x9_5 - x13_8))) h
def plan_impl_TopOf_1 : Plan := .seq none (.leaf) (.seq none (.draw (.op 0 (.op 1 (.op 2 (.op 3 (.op 4 (.op 5 (.op 6 (.op 7 (.op 8 (.op 9 .done))))))))))) (.leaf))
theorem tie_impl_TopOf_1 : (fun (xp0_1 : Int) (xp1_2 : Int) (b2 o2 : Nat) (h : Heap) (R : Value → Heap → Prop) => denF X0 Try.f122 (bodyOf Try.f122) plan_impl_TopOf_1 [.l (.int .i64 xp0_1), .l (.int .i64 xp1_2), .l (.ptrB b2 o2)] h R) = M_impl_TopOf_1 := by kernel_rfl
theorem calls_impl_TopOf_1 (xp0_1 : Int) (xp1_2 : Int) (b2 o2 : Nat) {h : Heap} {R : Value → Heap → Prop} (hm : M_impl_TopOf_1 xp0_1 xp1_2 b2 o2 h R) : CallsH PP fn_impl_TopOf_1 [.int .i64 xp0_1, .int .i64 xp1_2, .pointer (some ⟨b2, o2, none⟩)] h R :=
  callsH_of X0ok Try.func122 (by kernel_rfl) plan_impl_TopOf_1 [.l (.int .i64 xp0_1), .l (.int .i64 xp1_2), .l (.ptrB b2 o2)] (Eq.mpr (congrFun (congrFun (congrFun (congrFun (congrFun (congrFun tie_impl_TopOf_1 xp0_1) xp1_2) b2) o2) h) R) hm)
end Go.Proofs.Ytjmhahjmbmiepaa.D
