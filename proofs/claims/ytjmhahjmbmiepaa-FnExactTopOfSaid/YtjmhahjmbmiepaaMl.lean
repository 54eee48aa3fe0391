/- The M-code of functions: what their code comes to, read at the heap. PRINTED by gen.py. -/
import Derived.Test.YtjmhahjmbmiepaaTab
namespace Go.Proofs.Ytjmhahjmbmiepaa.D
open Go Go.Proofs
set_option linter.unusedVariables false
set_option linter.unusedSimpArgs false
set_option maxRecDepth 100000
/- 9: laws.szSnapStepS -/
def M_laws_szSnapStepS (ap0_1 : Option Addr) (np0_1 cp0_1 : Nat) (xp1_2 : Int) (h : Heap) (R : Value → Heap → Prop) : Prop :=
  (((decide (((IntKind.i64.wrap (xp1_2 - ((np0_1 : Nat) : Int))) : Int) < 0)) = true →
    R (.int .i64 (-1)) h) ∧
  ((decide (((IntKind.i64.wrap (xp1_2 - ((np0_1 : Nat) : Int))) : Int) < 0)) = false →
    R (.int .i64 (IntKind.i64.wrap (xp1_2 - ((np0_1 : Nat) : Int)))) h))
def plan_laws_szSnapStepS : Plan := .seq none (.leaf) (.seq none (.leaf) (.seq none (.seq none (.leaf) (.cond (.seq none (.leaf) (.leaf)) (.leaf))) (.seq none (.leaf) (.leaf))))
theorem tie_laws_szSnapStepS : (fun (ap0_1 : Option Addr) (np0_1 cp0_1 : Nat) (xp1_2 : Int) (h : Heap) (R : Value → Heap → Prop) => denF X0 Try.f9 (bodyOf Try.f9) plan_laws_szSnapStepS [.l (.sl ap0_1 np0_1 cp0_1), .l (.int .i64 xp1_2)] h R) = M_laws_szSnapStepS := by kernel_rfl
theorem calls_laws_szSnapStepS (ap0_1 : Option Addr) (np0_1 cp0_1 : Nat) (xp1_2 : Int) {h : Heap} {R : Value → Heap → Prop} (hm : M_laws_szSnapStepS ap0_1 np0_1 cp0_1 xp1_2 h R) : CallsH PP fn_laws_szSnapStepS [.slice ap0_1 np0_1 cp0_1, .int .i64 xp1_2] h R :=
  callsH_of X0ok Try.func9 (by kernel_rfl) plan_laws_szSnapStepS [.l (.sl ap0_1 np0_1 cp0_1), .l (.int .i64 xp1_2)] (Eq.mpr (congrFun (congrFun (congrFun (congrFun (congrFun (congrFun tie_laws_szSnapStepS ap0_1) np0_1) cp0_1) xp1_2) h) R) hm)
/- 11: laws.toIntS -/
def M_laws_toIntS (ap0_1 : Option Addr) (np0_1 cp0_1 : Nat) (h : Heap) (R : Value → Heap → Prop) : Prop :=
  0 ≤ ((np0_1 : Nat) : Int) ∧ ((np0_1 : Nat) : Int) ≤ ((np0_1 : Nat) : Int) ∧ ((np0_1 : Nat) : Int) ≤ 1099511627776 ∧ ((8 : Nat) : Int) * ((np0_1 : Nat) : Int) ≤ 281474976710656 ∧
  ∀ h2 : Heap, h2 = newRowH h ty_int (repl [.int .i64 0] np0_1) →
  ∃ (I3 : List Value → Heap → Prop) (μ3 : List Value → Heap → Nat), I3 [.int .i64 0] h2 ∧
  ∀ h3 : Heap, ∀ (x4_4 : Int), I3 [.int .i64 x4_4] h3 →
    (((decide ((x4_4 : Int) < ((np0_1 : Nat) : Int))) = true →
      ∃ (b18_5 o18_5 : Nat), ap0_1 = some ⟨b18_5, o18_5, none⟩ ∧ (0 : Int) ≤ x4_4 ∧ (x4_4 : Int) < ((np0_1 : Nat) : Int) ∧
      ∃ (x19_6 : Int), cellAt h3 b18_5 (o18_5 + x4_4.toNat) = some (.int .i64 x19_6) ∧
      (0 : Int) ≤ x4_4 ∧ (x4_4 : Int) < ((np0_1 : Nat) : Int) ∧
      ∃ (e7 : TypeId) (c7 : List Value), Row h3 h.size e7 c7 ∧ 0 + x4_4.toNat < c7.length ∧
      ∀ h8 : Heap, h8 = putRow h3 h.size e7 (c7.set (0 + x4_4.toNat) (.int .i64 x19_6)) →
      I3 [.int .i64 (IntKind.i64.wrap (x4_4 + 1))] h8 ∧ μ3 [.int .i64 (IntKind.i64.wrap (x4_4 + 1))] h8 < μ3 [.int .i64 x4_4] h3) ∧
    ((decide ((x4_4 : Int) < ((np0_1 : Nat) : Int))) = false →
      R (.slice (some ⟨h.size, 0, none⟩) np0_1 np0_1) h3))
def plan_laws_toIntS : Plan := .seq none (.leaf) (.seq none (.leaf) (.seq none (.seq none (.leaf) (.block (.loop [(4, .l (.int .i64))] (.seq none (.seq none (.leaf) (.cond (.leaf) (.leaf))) (.seq none (.block (.leaf)) (.leaf)))))) (.seq none (.leaf) (.leaf))))
theorem tie_laws_toIntS : (fun (ap0_1 : Option Addr) (np0_1 cp0_1 : Nat) (h : Heap) (R : Value → Heap → Prop) => denF X0 Try.f11 (bodyOf Try.f11) plan_laws_toIntS [.l (.sl ap0_1 np0_1 cp0_1)] h R) = M_laws_toIntS := by kernel_rfl
theorem calls_laws_toIntS (ap0_1 : Option Addr) (np0_1 cp0_1 : Nat) {h : Heap} {R : Value → Heap → Prop} (hm : M_laws_toIntS ap0_1 np0_1 cp0_1 h R) : CallsH PP fn_laws_toIntS [.slice ap0_1 np0_1 cp0_1] h R :=
  callsH_of X0ok Try.func11 (by kernel_rfl) plan_laws_toIntS [.l (.sl ap0_1 np0_1 cp0_1)] (Eq.mpr (congrFun (congrFun (congrFun (congrFun (congrFun tie_laws_toIntS ap0_1) np0_1) cp0_1) h) R) hm)
/- 12: laws.toSnapStepS -/
def M_laws_toSnapStepS (ap0_1 : Option Addr) (np0_1 cp0_1 : Nat) (h : Heap) (R : Value → Heap → Prop) : Prop :=
  0 ≤ ((np0_1 : Nat) : Int) ∧ ((np0_1 : Nat) : Int) ≤ ((np0_1 : Nat) : Int) ∧ ((np0_1 : Nat) : Int) ≤ 1099511627776 ∧ ((32 : Nat) : Int) * ((np0_1 : Nat) : Int) ≤ 281474976710656 ∧
  ∀ h2 : Heap, h2 = newRowH h ty_impl_SnapStep (repl [.int .i64 0, .int .i64 0, .int .i64 0, .int .i64 0] np0_1) →
  ∃ (I3 : List Value → Heap → Prop) (μ3 : List Value → Heap → Nat), I3 [.int .i64 0] h2 ∧
  ∀ h3 : Heap, ∀ (x4_4 : Int), I3 [.int .i64 x4_4] h3 →
    (((decide ((x4_4 : Int) < ((np0_1 : Nat) : Int))) = true →
      ∃ (b18_5 o18_5 : Nat), ap0_1 = some ⟨b18_5, o18_5, none⟩ ∧ (0 : Int) ≤ x4_4 ∧ (x4_4 : Int) < ((np0_1 : Nat) : Int) ∧
      ∃ (x19_0_6 : Int), cellAt h3 b18_5 (o18_5 + (x4_4.toNat * 4)) = some (.int .i64 x19_0_6) ∧
      ∃ (x19_1_7 : Int), cellAt h3 b18_5 (o18_5 + (x4_4.toNat * 4) + 1) = some (.int .i64 x19_1_7) ∧
      ∃ (x19_2_8 : Int), cellAt h3 b18_5 (o18_5 + (x4_4.toNat * 4) + 2) = some (.int .i64 x19_2_8) ∧
      ∃ (x19_3_9 : Int), cellAt h3 b18_5 (o18_5 + (x4_4.toNat * 4) + 3) = some (.int .i64 x19_3_9) ∧
      CallsH PP fn_laws_toSnapStep [.agg ⟨[.int .i64 x19_0_6, .int .i64 x19_1_7, .int .i64 x19_2_8, .int .i64 x19_3_9]⟩] h3 fun (v10 : Value) (h10 : Heap) =>
      ∃ (x20_0_11 : Int) (x20_1_12 : Int) (x20_2_13 : Int) (x20_3_14 : Int), v10 = .agg ⟨[.int .i64 x20_0_11, .int .i64 x20_1_12, .int .i64 x20_2_13, .int .i64 x20_3_14]⟩ ∧
      (0 : Int) ≤ x4_4 ∧ (x4_4 : Int) < ((np0_1 : Nat) : Int) ∧
      ∃ (e15 : TypeId) (c15 : List Value), Row h10 h.size e15 c15 ∧ 0 + (x4_4.toNat * 4) + 4 ≤ c15.length ∧
      ∀ h16 : Heap, h16 = putRow h10 h.size e15 (splice c15 (0 + (x4_4.toNat * 4)) [.int .i64 x20_0_11, .int .i64 x20_1_12, .int .i64 x20_2_13, .int .i64 x20_3_14]) →
      I3 [.int .i64 (IntKind.i64.wrap (x4_4 + 1))] h16 ∧ μ3 [.int .i64 (IntKind.i64.wrap (x4_4 + 1))] h16 < μ3 [.int .i64 x4_4] h3) ∧
    ((decide ((x4_4 : Int) < ((np0_1 : Nat) : Int))) = false →
      R (.slice (some ⟨h.size, 0, none⟩) np0_1 np0_1) h3))
def plan_laws_toSnapStepS : Plan := .seq none (.leaf) (.seq none (.leaf) (.seq none (.seq none (.leaf) (.block (.loop [(4, .l (.int .i64))] (.seq none (.seq none (.leaf) (.cond (.leaf) (.leaf))) (.seq none (.block (.leaf)) (.leaf)))))) (.seq none (.leaf) (.leaf))))
theorem tie_laws_toSnapStepS : (fun (ap0_1 : Option Addr) (np0_1 cp0_1 : Nat) (h : Heap) (R : Value → Heap → Prop) => denF X0 Try.f12 (bodyOf Try.f12) plan_laws_toSnapStepS [.l (.sl ap0_1 np0_1 cp0_1)] h R) = M_laws_toSnapStepS := by kernel_rfl
theorem calls_laws_toSnapStepS (ap0_1 : Option Addr) (np0_1 cp0_1 : Nat) {h : Heap} {R : Value → Heap → Prop} (hm : M_laws_toSnapStepS ap0_1 np0_1 cp0_1 h R) : CallsH PP fn_laws_toSnapStepS [.slice ap0_1 np0_1 cp0_1] h R :=
  callsH_of X0ok Try.func12 (by kernel_rfl) plan_laws_toSnapStepS [.l (.sl ap0_1 np0_1 cp0_1)] (Eq.mpr (congrFun (congrFun (congrFun (congrFun (congrFun tie_laws_toSnapStepS ap0_1) np0_1) cp0_1) h) R) hm)
/- 84: laws.toSnapStep -/
def M_laws_toSnapStep (xp0_0_1 : Int) (xp0_1_2 : Int) (xp0_2_3 : Int) (xp0_3_4 : Int) (h : Heap) (R : Value → Heap → Prop) : Prop :=
  ∀ h5 : Heap, h5 = newRowH h ty_laws_SnapStep [.int .i64 xp0_0_1, .int .i64 xp0_1_2, .int .i64 xp0_2_3, .int .i64 xp0_3_4] →
  ∀ h6 : Heap, h6 = newRowH h5 ty_impl_SnapStep [.int .i64 0, .int .i64 0, .int .i64 0, .int .i64 0] →
  ∀ h7 : Heap, h7 = newRowH h6 ty_impl_SnapStep [.int .i64 0, .int .i64 0, .int .i64 0, .int .i64 0] →
  ∃ (x5_8 : Int), cellAt h7 h.size 0 = some (.int .i64 x5_8) ∧
  ∃ (e9 : TypeId) (c9 : List Value), Row h7 h6.size e9 c9 ∧ 0 < c9.length ∧
  ∀ h10 : Heap, h10 = putRow h7 h6.size e9 (c9.set 0 (.int .i64 x5_8)) →
  ∃ (x8_11 : Int), cellAt h10 h.size 1 = some (.int .i64 x8_11) ∧
  ∃ (e12 : TypeId) (c12 : List Value), Row h10 h6.size e12 c12 ∧ 1 < c12.length ∧
  ∀ h13 : Heap, h13 = putRow h10 h6.size e12 (c12.set 1 (.int .i64 x8_11)) →
  ∃ (x11_14 : Int), cellAt h13 h.size 2 = some (.int .i64 x11_14) ∧
  ∃ (e15 : TypeId) (c15 : List Value), Row h13 h6.size e15 c15 ∧ 2 < c15.length ∧
  ∀ h16 : Heap, h16 = putRow h13 h6.size e15 (c15.set 2 (.int .i64 x11_14)) →
  ∃ (x14_17 : Int), cellAt h16 h.size 3 = some (.int .i64 x14_17) ∧
  ∃ (e18 : TypeId) (c18 : List Value), Row h16 h6.size e18 c18 ∧ 3 < c18.length ∧
  ∀ h19 : Heap, h19 = putRow h16 h6.size e18 (c18.set 3 (.int .i64 x14_17)) →
  ∃ (x16_0_20 : Int), cellAt h19 h6.size 0 = some (.int .i64 x16_0_20) ∧
  ∃ (x16_1_21 : Int), cellAt h19 h6.size 1 = some (.int .i64 x16_1_21) ∧
  ∃ (x16_2_22 : Int), cellAt h19 h6.size 2 = some (.int .i64 x16_2_22) ∧
  ∃ (x16_3_23 : Int), cellAt h19 h6.size 3 = some (.int .i64 x16_3_23) ∧
  ∃ (e24 : TypeId) (c24 : List Value), Row h19 h5.size e24 c24 ∧ 0 + 4 ≤ c24.length ∧
  ∀ h25 : Heap, h25 = putRow h19 h5.size e24 (splice c24 0 [.int .i64 x16_0_20, .int .i64 x16_1_21, .int .i64 x16_2_22, .int .i64 x16_3_23]) →
  ∃ (xr0_0_26 : Int), cellAt h25 h5.size 0 = some (.int .i64 xr0_0_26) ∧
  ∃ (xr0_1_27 : Int), cellAt h25 h5.size 1 = some (.int .i64 xr0_1_27) ∧
  ∃ (xr0_2_28 : Int), cellAt h25 h5.size 2 = some (.int .i64 xr0_2_28) ∧
  ∃ (xr0_3_29 : Int), cellAt h25 h5.size 3 = some (.int .i64 xr0_3_29) ∧
  R (.agg ⟨[.int .i64 xr0_0_26, .int .i64 xr0_1_27, .int .i64 xr0_2_28, .int .i64 xr0_3_29]⟩) h25
def plan_laws_toSnapStep : Plan := .seq none (.leaf) (.seq none (.leaf) (.seq none (.leaf) (.seq none (.leaf) (.seq none (.leaf) (.seq none (.leaf) (.seq none (.leaf) (.leaf)))))))
theorem tie_laws_toSnapStep : (fun (xp0_0_1 : Int) (xp0_1_2 : Int) (xp0_2_3 : Int) (xp0_3_4 : Int) (h : Heap) (R : Value → Heap → Prop) => denF X0 Try.f84 (bodyOf Try.f84) plan_laws_toSnapStep [.agg [.int .i64 xp0_0_1, .int .i64 xp0_1_2, .int .i64 xp0_2_3, .int .i64 xp0_3_4]] h R) = M_laws_toSnapStep := by kernel_rfl
theorem calls_laws_toSnapStep (xp0_0_1 : Int) (xp0_1_2 : Int) (xp0_2_3 : Int) (xp0_3_4 : Int) {h : Heap} {R : Value → Heap → Prop} (hm : M_laws_toSnapStep xp0_0_1 xp0_1_2 xp0_2_3 xp0_3_4 h R) : CallsH PP fn_laws_toSnapStep [.agg ⟨[.int .i64 xp0_0_1, .int .i64 xp0_1_2, .int .i64 xp0_2_3, .int .i64 xp0_3_4]⟩] h R :=
  callsH_of X0ok Try.func84 (by kernel_rfl) plan_laws_toSnapStep [.agg [.int .i64 xp0_0_1, .int .i64 xp0_1_2, .int .i64 xp0_2_3, .int .i64 xp0_3_4]] (Eq.mpr (congrFun (congrFun (congrFun (congrFun (congrFun (congrFun tie_laws_toSnapStep xp0_0_1) xp0_1_2) xp0_2_3) xp0_3_4) h) R) hm)
/- 16: laws.eqIntS -/
def M_laws_eqIntS (ap0_1 : Option Addr) (np0_1 cp0_1 : Nat) (ap1_2 : Option Addr) (np1_2 cp1_2 : Nat) (h : Heap) (R : Value → Heap → Prop) : Prop :=
  ((((((np0_1 : Nat) : Int) : Int) != ((np1_2 : Nat) : Int)) = true →
    R (.bool false) h) ∧
  (((((np0_1 : Nat) : Int) : Int) != ((np1_2 : Nat) : Int)) = false →
    ∃ (I3 : List Value → Heap → Prop) (μ3 : List Value → Heap → Nat), I3 [.int .i64 0] h ∧
    ∀ h3 : Heap, ∀ (x5_4 : Int), I3 [.int .i64 x5_4] h3 →
      (((decide ((x5_4 : Int) < ((np0_1 : Nat) : Int))) = true →
        ∃ (b19_5 o19_5 : Nat), ap0_1 = some ⟨b19_5, o19_5, none⟩ ∧ (0 : Int) ≤ x5_4 ∧ (x5_4 : Int) < ((np0_1 : Nat) : Int) ∧
        ∃ (x20_6 : Int), cellAt h3 b19_5 (o19_5 + x5_4.toNat) = some (.int .i64 x20_6) ∧
        ∃ (b23_7 o23_7 : Nat), ap1_2 = some ⟨b23_7, o23_7, none⟩ ∧ (0 : Int) ≤ x5_4 ∧ (x5_4 : Int) < ((np1_2 : Nat) : Int) ∧
        ∃ (x24_8 : Int), cellAt h3 b23_7 (o23_7 + x5_4.toNat) = some (.int .i64 x24_8) ∧
        ((((x20_6 : Int) != x24_8) = true →
          R (.bool false) h3) ∧
        (((x20_6 : Int) != x24_8) = false →
          I3 [.int .i64 (IntKind.i64.wrap (x5_4 + 1))] h3 ∧ μ3 [.int .i64 (IntKind.i64.wrap (x5_4 + 1))] h3 < μ3 [.int .i64 x5_4] h3))) ∧
      ((decide ((x5_4 : Int) < ((np0_1 : Nat) : Int))) = false →
        R (.bool true) h3))))
def plan_laws_eqIntS : Plan := .seq none (.leaf) (.seq none (.seq none (.leaf) (.cond (.seq none (.leaf) (.leaf)) (.leaf))) (.seq none (.seq none (.leaf) (.block (.loop [(5, .l (.int .i64))] (.seq none (.seq none (.leaf) (.cond (.leaf) (.leaf))) (.seq none (.block (.seq none (.draw (.op 0 (.op 1 (.op 2 (.op 3 (.op 4 (.op 5 (.op 6 (.op 7 (.op 8 .done)))))))))) (.cond (.seq none (.leaf) (.leaf)) (.leaf)))) (.leaf)))))) (.seq none (.leaf) (.leaf))))
theorem tie_laws_eqIntS : (fun (ap0_1 : Option Addr) (np0_1 cp0_1 : Nat) (ap1_2 : Option Addr) (np1_2 cp1_2 : Nat) (h : Heap) (R : Value → Heap → Prop) => denF X0 Try.f16 (bodyOf Try.f16) plan_laws_eqIntS [.l (.sl ap0_1 np0_1 cp0_1), .l (.sl ap1_2 np1_2 cp1_2)] h R) = M_laws_eqIntS := by kernel_rfl
theorem calls_laws_eqIntS (ap0_1 : Option Addr) (np0_1 cp0_1 : Nat) (ap1_2 : Option Addr) (np1_2 cp1_2 : Nat) {h : Heap} {R : Value → Heap → Prop} (hm : M_laws_eqIntS ap0_1 np0_1 cp0_1 ap1_2 np1_2 cp1_2 h R) : CallsH PP fn_laws_eqIntS [.slice ap0_1 np0_1 cp0_1, .slice ap1_2 np1_2 cp1_2] h R :=
  callsH_of X0ok Try.func16 (by kernel_rfl) plan_laws_eqIntS [.l (.sl ap0_1 np0_1 cp0_1), .l (.sl ap1_2 np1_2 cp1_2)] (Eq.mpr (congrFun (congrFun (congrFun (congrFun (congrFun (congrFun (congrFun (congrFun tie_laws_eqIntS ap0_1) np0_1) cp0_1) ap1_2) np1_2) cp1_2) h) R) hm)
/- 88: laws.eqIntSS -/
def M_laws_eqIntSS (ap0_1 : Option Addr) (np0_1 cp0_1 : Nat) (ap1_2 : Option Addr) (np1_2 cp1_2 : Nat) (h : Heap) (R : Value → Heap → Prop) : Prop :=
  ((((((np0_1 : Nat) : Int) : Int) != ((np1_2 : Nat) : Int)) = true →
    R (.bool false) h) ∧
  (((((np0_1 : Nat) : Int) : Int) != ((np1_2 : Nat) : Int)) = false →
    ∃ (I3 : List Value → Heap → Prop) (μ3 : List Value → Heap → Nat), I3 [.int .i64 0] h ∧
    ∀ h3 : Heap, ∀ (x5_4 : Int), I3 [.int .i64 x5_4] h3 →
      (((decide ((x5_4 : Int) < ((np0_1 : Nat) : Int))) = true →
        ∃ (b19_5 o19_5 : Nat), ap0_1 = some ⟨b19_5, o19_5, none⟩ ∧ (0 : Int) ≤ x5_4 ∧ (x5_4 : Int) < ((np0_1 : Nat) : Int) ∧
        ∃ (a20_6 : Option Addr) (n20_6 c20_6 : Nat), cellAt h3 b19_5 (o19_5 + x5_4.toNat) = some (.slice a20_6 n20_6 c20_6) ∧
        ∃ (b23_7 o23_7 : Nat), ap1_2 = some ⟨b23_7, o23_7, none⟩ ∧ (0 : Int) ≤ x5_4 ∧ (x5_4 : Int) < ((np1_2 : Nat) : Int) ∧
        ∃ (a24_8 : Option Addr) (n24_8 c24_8 : Nat), cellAt h3 b23_7 (o23_7 + x5_4.toNat) = some (.slice a24_8 n24_8 c24_8) ∧
        CallsH PP fn_laws_eqIntS [.slice a20_6 n20_6 c20_6, .slice a24_8 n24_8 c24_8] h3 fun (v9 : Value) (h9 : Heap) =>
        ∃ (t25_10 : Bool), v9 = .bool t25_10 ∧
        (((!t25_10) = true →
          R (.bool false) h9) ∧
        ((!t25_10) = false →
          I3 [.int .i64 (IntKind.i64.wrap (x5_4 + 1))] h9 ∧ μ3 [.int .i64 (IntKind.i64.wrap (x5_4 + 1))] h9 < μ3 [.int .i64 x5_4] h3))) ∧
      ((decide ((x5_4 : Int) < ((np0_1 : Nat) : Int))) = false →
        R (.bool true) h3))))
def plan_laws_eqIntSS : Plan := .seq none (.leaf) (.seq none (.seq none (.leaf) (.cond (.seq none (.leaf) (.leaf)) (.leaf))) (.seq none (.seq none (.leaf) (.block (.loop [(5, .l (.int .i64))] (.seq none (.seq none (.leaf) (.cond (.leaf) (.leaf))) (.seq none (.block (.seq none (.draw (.op 0 (.op 1 (.op 2 (.op 3 (.op 4 (.op 5 (.op 6 (.op 7 (.op 8 (.op 9 .done))))))))))) (.cond (.seq none (.leaf) (.leaf)) (.leaf)))) (.leaf)))))) (.seq none (.leaf) (.leaf))))
theorem tie_laws_eqIntSS : (fun (ap0_1 : Option Addr) (np0_1 cp0_1 : Nat) (ap1_2 : Option Addr) (np1_2 cp1_2 : Nat) (h : Heap) (R : Value → Heap → Prop) => denF X0 Try.f88 (bodyOf Try.f88) plan_laws_eqIntSS [.l (.sl ap0_1 np0_1 cp0_1), .l (.sl ap1_2 np1_2 cp1_2)] h R) = M_laws_eqIntSS := by kernel_rfl
theorem calls_laws_eqIntSS (ap0_1 : Option Addr) (np0_1 cp0_1 : Nat) (ap1_2 : Option Addr) (np1_2 cp1_2 : Nat) {h : Heap} {R : Value → Heap → Prop} (hm : M_laws_eqIntSS ap0_1 np0_1 cp0_1 ap1_2 np1_2 cp1_2 h R) : CallsH PP fn_laws_eqIntSS [.slice ap0_1 np0_1 cp0_1, .slice ap1_2 np1_2 cp1_2] h R :=
  callsH_of X0ok Try.func88 (by kernel_rfl) plan_laws_eqIntSS [.l (.sl ap0_1 np0_1 cp0_1), .l (.sl ap1_2 np1_2 cp1_2)] (Eq.mpr (congrFun (congrFun (congrFun (congrFun (congrFun (congrFun (congrFun (congrFun tie_laws_eqIntSS ap0_1) np0_1) cp0_1) ap1_2) np1_2) cp1_2) h) R) hm)
/- 15: laws.eqBoolS -/
def M_laws_eqBoolS (ap0_1 : Option Addr) (np0_1 cp0_1 : Nat) (ap1_2 : Option Addr) (np1_2 cp1_2 : Nat) (h : Heap) (R : Value → Heap → Prop) : Prop :=
  ((((((np0_1 : Nat) : Int) : Int) != ((np1_2 : Nat) : Int)) = true →
    R (.bool false) h) ∧
  (((((np0_1 : Nat) : Int) : Int) != ((np1_2 : Nat) : Int)) = false →
    ∃ (I3 : List Value → Heap → Prop) (μ3 : List Value → Heap → Nat), I3 [.int .i64 0] h ∧
    ∀ h3 : Heap, ∀ (x5_4 : Int), I3 [.int .i64 x5_4] h3 →
      (((decide ((x5_4 : Int) < ((np0_1 : Nat) : Int))) = true →
        ∃ (b19_5 o19_5 : Nat), ap0_1 = some ⟨b19_5, o19_5, none⟩ ∧ (0 : Int) ≤ x5_4 ∧ (x5_4 : Int) < ((np0_1 : Nat) : Int) ∧
        ∃ (t20_6 : Bool), cellAt h3 b19_5 (o19_5 + x5_4.toNat) = some (.bool t20_6) ∧
        ∃ (b23_7 o23_7 : Nat), ap1_2 = some ⟨b23_7, o23_7, none⟩ ∧ (0 : Int) ≤ x5_4 ∧ (x5_4 : Int) < ((np1_2 : Nat) : Int) ∧
        ∃ (t24_8 : Bool), cellAt h3 b23_7 (o23_7 + x5_4.toNat) = some (.bool t24_8) ∧
        (((!(t20_6 == t24_8)) = true →
          R (.bool false) h3) ∧
        ((!(t20_6 == t24_8)) = false →
          I3 [.int .i64 (IntKind.i64.wrap (x5_4 + 1))] h3 ∧ μ3 [.int .i64 (IntKind.i64.wrap (x5_4 + 1))] h3 < μ3 [.int .i64 x5_4] h3))) ∧
      ((decide ((x5_4 : Int) < ((np0_1 : Nat) : Int))) = false →
        R (.bool true) h3))))
def plan_laws_eqBoolS : Plan := .seq none (.leaf) (.seq none (.seq none (.leaf) (.cond (.seq none (.leaf) (.leaf)) (.leaf))) (.seq none (.seq none (.leaf) (.block (.loop [(5, .l (.int .i64))] (.seq none (.seq none (.leaf) (.cond (.leaf) (.leaf))) (.seq none (.block (.seq none (.draw (.op 0 (.op 1 (.op 2 (.op 3 (.op 4 (.op 5 (.op 6 (.op 7 (.op 8 .done)))))))))) (.cond (.seq none (.leaf) (.leaf)) (.leaf)))) (.leaf)))))) (.seq none (.leaf) (.leaf))))
theorem tie_laws_eqBoolS : (fun (ap0_1 : Option Addr) (np0_1 cp0_1 : Nat) (ap1_2 : Option Addr) (np1_2 cp1_2 : Nat) (h : Heap) (R : Value → Heap → Prop) => denF X0 Try.f15 (bodyOf Try.f15) plan_laws_eqBoolS [.l (.sl ap0_1 np0_1 cp0_1), .l (.sl ap1_2 np1_2 cp1_2)] h R) = M_laws_eqBoolS := by kernel_rfl
theorem calls_laws_eqBoolS (ap0_1 : Option Addr) (np0_1 cp0_1 : Nat) (ap1_2 : Option Addr) (np1_2 cp1_2 : Nat) {h : Heap} {R : Value → Heap → Prop} (hm : M_laws_eqBoolS ap0_1 np0_1 cp0_1 ap1_2 np1_2 cp1_2 h R) : CallsH PP fn_laws_eqBoolS [.slice ap0_1 np0_1 cp0_1, .slice ap1_2 np1_2 cp1_2] h R :=
  callsH_of X0ok Try.func15 (by kernel_rfl) plan_laws_eqBoolS [.l (.sl ap0_1 np0_1 cp0_1), .l (.sl ap1_2 np1_2 cp1_2)] (Eq.mpr (congrFun (congrFun (congrFun (congrFun (congrFun (congrFun (congrFun (congrFun tie_laws_eqBoolS ap0_1) np0_1) cp0_1) ap1_2) np1_2) cp1_2) h) R) hm)
/- 89: laws.eqBoolSS -/
def M_laws_eqBoolSS (ap0_1 : Option Addr) (np0_1 cp0_1 : Nat) (ap1_2 : Option Addr) (np1_2 cp1_2 : Nat) (h : Heap) (R : Value → Heap → Prop) : Prop :=
  ((((((np0_1 : Nat) : Int) : Int) != ((np1_2 : Nat) : Int)) = true →
    R (.bool false) h) ∧
  (((((np0_1 : Nat) : Int) : Int) != ((np1_2 : Nat) : Int)) = false →
    ∃ (I3 : List Value → Heap → Prop) (μ3 : List Value → Heap → Nat), I3 [.int .i64 0] h ∧
    ∀ h3 : Heap, ∀ (x5_4 : Int), I3 [.int .i64 x5_4] h3 →
      (((decide ((x5_4 : Int) < ((np0_1 : Nat) : Int))) = true →
        ∃ (b19_5 o19_5 : Nat), ap0_1 = some ⟨b19_5, o19_5, none⟩ ∧ (0 : Int) ≤ x5_4 ∧ (x5_4 : Int) < ((np0_1 : Nat) : Int) ∧
        ∃ (a20_6 : Option Addr) (n20_6 c20_6 : Nat), cellAt h3 b19_5 (o19_5 + x5_4.toNat) = some (.slice a20_6 n20_6 c20_6) ∧
        ∃ (b23_7 o23_7 : Nat), ap1_2 = some ⟨b23_7, o23_7, none⟩ ∧ (0 : Int) ≤ x5_4 ∧ (x5_4 : Int) < ((np1_2 : Nat) : Int) ∧
        ∃ (a24_8 : Option Addr) (n24_8 c24_8 : Nat), cellAt h3 b23_7 (o23_7 + x5_4.toNat) = some (.slice a24_8 n24_8 c24_8) ∧
        CallsH PP fn_laws_eqBoolS [.slice a20_6 n20_6 c20_6, .slice a24_8 n24_8 c24_8] h3 fun (v9 : Value) (h9 : Heap) =>
        ∃ (t25_10 : Bool), v9 = .bool t25_10 ∧
        (((!t25_10) = true →
          R (.bool false) h9) ∧
        ((!t25_10) = false →
          I3 [.int .i64 (IntKind.i64.wrap (x5_4 + 1))] h9 ∧ μ3 [.int .i64 (IntKind.i64.wrap (x5_4 + 1))] h9 < μ3 [.int .i64 x5_4] h3))) ∧
      ((decide ((x5_4 : Int) < ((np0_1 : Nat) : Int))) = false →
        R (.bool true) h3))))
def plan_laws_eqBoolSS : Plan := .seq none (.leaf) (.seq none (.seq none (.leaf) (.cond (.seq none (.leaf) (.leaf)) (.leaf))) (.seq none (.seq none (.leaf) (.block (.loop [(5, .l (.int .i64))] (.seq none (.seq none (.leaf) (.cond (.leaf) (.leaf))) (.seq none (.block (.seq none (.draw (.op 0 (.op 1 (.op 2 (.op 3 (.op 4 (.op 5 (.op 6 (.op 7 (.op 8 (.op 9 .done))))))))))) (.cond (.seq none (.leaf) (.leaf)) (.leaf)))) (.leaf)))))) (.seq none (.leaf) (.leaf))))
theorem tie_laws_eqBoolSS : (fun (ap0_1 : Option Addr) (np0_1 cp0_1 : Nat) (ap1_2 : Option Addr) (np1_2 cp1_2 : Nat) (h : Heap) (R : Value → Heap → Prop) => denF X0 Try.f89 (bodyOf Try.f89) plan_laws_eqBoolSS [.l (.sl ap0_1 np0_1 cp0_1), .l (.sl ap1_2 np1_2 cp1_2)] h R) = M_laws_eqBoolSS := by kernel_rfl
theorem calls_laws_eqBoolSS (ap0_1 : Option Addr) (np0_1 cp0_1 : Nat) (ap1_2 : Option Addr) (np1_2 cp1_2 : Nat) {h : Heap} {R : Value → Heap → Prop} (hm : M_laws_eqBoolSS ap0_1 np0_1 cp0_1 ap1_2 np1_2 cp1_2 h R) : CallsH PP fn_laws_eqBoolSS [.slice ap0_1 np0_1 cp0_1, .slice ap1_2 np1_2 cp1_2] h R :=
  callsH_of X0ok Try.func89 (by kernel_rfl) plan_laws_eqBoolSS [.l (.sl ap0_1 np0_1 cp0_1), .l (.sl ap1_2 np1_2 cp1_2)] (Eq.mpr (congrFun (congrFun (congrFun (congrFun (congrFun (congrFun (congrFun (congrFun tie_laws_eqBoolSS ap0_1) np0_1) cp0_1) ap1_2) np1_2) cp1_2) h) R) hm)
/- 90: laws.eqSnapStep -/
def M_laws_eqSnapStep (xp0_0_1 : Int) (xp0_1_2 : Int) (xp0_2_3 : Int) (xp0_3_4 : Int) (xp1_0_5 : Int) (xp1_1_6 : Int) (xp1_2_7 : Int) (xp1_3_8 : Int) (h : Heap) (R : Value → Heap → Prop) : Prop :=
  ∀ h9 : Heap, h9 = newRowH h ty_impl_SnapStep [.int .i64 xp0_0_1, .int .i64 xp0_1_2, .int .i64 xp0_2_3, .int .i64 xp0_3_4] →
  ∀ h10 : Heap, h10 = newRowH h9 ty_impl_SnapStep [.int .i64 xp1_0_5, .int .i64 xp1_1_6, .int .i64 xp1_2_7, .int .i64 xp1_3_8] →
  ∃ (x6_11 : Int), cellAt h10 h.size 0 = some (.int .i64 x6_11) ∧
  ∃ (x8_12 : Int), cellAt h10 h9.size 0 = some (.int .i64 x8_12) ∧
  ((((x6_11 : Int) != x8_12) = true →
    R (.bool false) h10) ∧
  (((x6_11 : Int) != x8_12) = false →
    ∃ (x11_13 : Int), cellAt h10 h.size 1 = some (.int .i64 x11_13) ∧
    ∃ (x13_14 : Int), cellAt h10 h9.size 1 = some (.int .i64 x13_14) ∧
    ((((x11_13 : Int) != x13_14) = true →
      R (.bool false) h10) ∧
    (((x11_13 : Int) != x13_14) = false →
      ∃ (x16_15 : Int), cellAt h10 h.size 2 = some (.int .i64 x16_15) ∧
      ∃ (x18_16 : Int), cellAt h10 h9.size 2 = some (.int .i64 x18_16) ∧
      ((((x16_15 : Int) != x18_16) = true →
        R (.bool false) h10) ∧
      (((x16_15 : Int) != x18_16) = false →
        ∃ (x21_17 : Int), cellAt h10 h.size 3 = some (.int .i64 x21_17) ∧
        ∃ (x23_18 : Int), cellAt h10 h9.size 3 = some (.int .i64 x23_18) ∧
        ((((x21_17 : Int) != x23_18) = true →
          R (.bool false) h10) ∧
        (((x21_17 : Int) != x23_18) = false →
          R (.bool true) h10))))))))
def plan_laws_eqSnapStep : Plan := .seq none (.leaf) (.seq none (.seq none (.leaf) (.cond (.seq none (.leaf) (.leaf)) (.leaf))) (.seq none (.seq none (.leaf) (.cond (.seq none (.leaf) (.leaf)) (.leaf))) (.seq none (.seq none (.leaf) (.cond (.seq none (.leaf) (.leaf)) (.leaf))) (.seq none (.seq none (.leaf) (.cond (.seq none (.leaf) (.leaf)) (.leaf))) (.seq none (.leaf) (.leaf))))))
theorem tie_laws_eqSnapStep : (fun (xp0_0_1 : Int) (xp0_1_2 : Int) (xp0_2_3 : Int) (xp0_3_4 : Int) (xp1_0_5 : Int) (xp1_1_6 : Int) (xp1_2_7 : Int) (xp1_3_8 : Int) (h : Heap) (R : Value → Heap → Prop) => denF X0 Try.f90 (bodyOf Try.f90) plan_laws_eqSnapStep [.agg [.int .i64 xp0_0_1, .int .i64 xp0_1_2, .int .i64 xp0_2_3, .int .i64 xp0_3_4], .agg [.int .i64 xp1_0_5, .int .i64 xp1_1_6, .int .i64 xp1_2_7, .int .i64 xp1_3_8]] h R) = M_laws_eqSnapStep := by kernel_rfl
theorem calls_laws_eqSnapStep (xp0_0_1 : Int) (xp0_1_2 : Int) (xp0_2_3 : Int) (xp0_3_4 : Int) (xp1_0_5 : Int) (xp1_1_6 : Int) (xp1_2_7 : Int) (xp1_3_8 : Int) {h : Heap} {R : Value → Heap → Prop} (hm : M_laws_eqSnapStep xp0_0_1 xp0_1_2 xp0_2_3 xp0_3_4 xp1_0_5 xp1_1_6 xp1_2_7 xp1_3_8 h R) : CallsH PP fn_laws_eqSnapStep [.agg ⟨[.int .i64 xp0_0_1, .int .i64 xp0_1_2, .int .i64 xp0_2_3, .int .i64 xp0_3_4]⟩, .agg ⟨[.int .i64 xp1_0_5, .int .i64 xp1_1_6, .int .i64 xp1_2_7, .int .i64 xp1_3_8]⟩] h R :=
  callsH_of X0ok Try.func90 (by kernel_rfl) plan_laws_eqSnapStep [.agg [.int .i64 xp0_0_1, .int .i64 xp0_1_2, .int .i64 xp0_2_3, .int .i64 xp0_3_4], .agg [.int .i64 xp1_0_5, .int .i64 xp1_1_6, .int .i64 xp1_2_7, .int .i64 xp1_3_8]] (Eq.mpr (congrFun (congrFun (congrFun (congrFun (congrFun (congrFun (congrFun (congrFun (congrFun (congrFun tie_laws_eqSnapStep xp0_0_1) xp0_1_2) xp0_2_3) xp0_3_4) xp1_0_5) xp1_1_6) xp1_2_7) xp1_3_8) h) R) hm)
/- 17: laws.eqSnapStepS -/
def M_laws_eqSnapStepS (ap0_1 : Option Addr) (np0_1 cp0_1 : Nat) (ap1_2 : Option Addr) (np1_2 cp1_2 : Nat) (h : Heap) (R : Value → Heap → Prop) : Prop :=
  ((((((np0_1 : Nat) : Int) : Int) != ((np1_2 : Nat) : Int)) = true →
    R (.bool false) h) ∧
  (((((np0_1 : Nat) : Int) : Int) != ((np1_2 : Nat) : Int)) = false →
    ∃ (I3 : List Value → Heap → Prop) (μ3 : List Value → Heap → Nat), I3 [.int .i64 0] h ∧
    ∀ h3 : Heap, ∀ (x5_4 : Int), I3 [.int .i64 x5_4] h3 →
      (((decide ((x5_4 : Int) < ((np0_1 : Nat) : Int))) = true →
        ∃ (b19_5 o19_5 : Nat), ap0_1 = some ⟨b19_5, o19_5, none⟩ ∧ (0 : Int) ≤ x5_4 ∧ (x5_4 : Int) < ((np0_1 : Nat) : Int) ∧
        ∃ (x20_0_6 : Int), cellAt h3 b19_5 (o19_5 + (x5_4.toNat * 4)) = some (.int .i64 x20_0_6) ∧
        ∃ (x20_1_7 : Int), cellAt h3 b19_5 (o19_5 + (x5_4.toNat * 4) + 1) = some (.int .i64 x20_1_7) ∧
        ∃ (x20_2_8 : Int), cellAt h3 b19_5 (o19_5 + (x5_4.toNat * 4) + 2) = some (.int .i64 x20_2_8) ∧
        ∃ (x20_3_9 : Int), cellAt h3 b19_5 (o19_5 + (x5_4.toNat * 4) + 3) = some (.int .i64 x20_3_9) ∧
        ∃ (b23_10 o23_10 : Nat), ap1_2 = some ⟨b23_10, o23_10, none⟩ ∧ (0 : Int) ≤ x5_4 ∧ (x5_4 : Int) < ((np1_2 : Nat) : Int) ∧
        ∃ (x24_0_11 : Int), cellAt h3 b23_10 (o23_10 + (x5_4.toNat * 4)) = some (.int .i64 x24_0_11) ∧
        ∃ (x24_1_12 : Int), cellAt h3 b23_10 (o23_10 + (x5_4.toNat * 4) + 1) = some (.int .i64 x24_1_12) ∧
        ∃ (x24_2_13 : Int), cellAt h3 b23_10 (o23_10 + (x5_4.toNat * 4) + 2) = some (.int .i64 x24_2_13) ∧
        ∃ (x24_3_14 : Int), cellAt h3 b23_10 (o23_10 + (x5_4.toNat * 4) + 3) = some (.int .i64 x24_3_14) ∧
        CallsH PP fn_laws_eqSnapStep [.agg ⟨[.int .i64 x20_0_6, .int .i64 x20_1_7, .int .i64 x20_2_8, .int .i64 x20_3_9]⟩, .agg ⟨[.int .i64 x24_0_11, .int .i64 x24_1_12, .int .i64 x24_2_13, .int .i64 x24_3_14]⟩] h3 fun (v15 : Value) (h15 : Heap) =>
        ∃ (t25_16 : Bool), v15 = .bool t25_16 ∧
        (((!t25_16) = true →
          R (.bool false) h15) ∧
        ((!t25_16) = false →
          I3 [.int .i64 (IntKind.i64.wrap (x5_4 + 1))] h15 ∧ μ3 [.int .i64 (IntKind.i64.wrap (x5_4 + 1))] h15 < μ3 [.int .i64 x5_4] h3))) ∧
      ((decide ((x5_4 : Int) < ((np0_1 : Nat) : Int))) = false →
        R (.bool true) h3))))
def plan_laws_eqSnapStepS : Plan := .seq none (.leaf) (.seq none (.seq none (.leaf) (.cond (.seq none (.leaf) (.leaf)) (.leaf))) (.seq none (.seq none (.leaf) (.block (.loop [(5, .l (.int .i64))] (.seq none (.seq none (.leaf) (.cond (.leaf) (.leaf))) (.seq none (.block (.seq none (.draw (.op 0 (.op 1 (.op 2 (.op 3 (.op 4 (.op 5 (.op 6 (.op 7 (.op 8 (.op 9 .done))))))))))) (.cond (.seq none (.leaf) (.leaf)) (.leaf)))) (.leaf)))))) (.seq none (.leaf) (.leaf))))
theorem tie_laws_eqSnapStepS : (fun (ap0_1 : Option Addr) (np0_1 cp0_1 : Nat) (ap1_2 : Option Addr) (np1_2 cp1_2 : Nat) (h : Heap) (R : Value → Heap → Prop) => denF X0 Try.f17 (bodyOf Try.f17) plan_laws_eqSnapStepS [.l (.sl ap0_1 np0_1 cp0_1), .l (.sl ap1_2 np1_2 cp1_2)] h R) = M_laws_eqSnapStepS := by kernel_rfl
theorem calls_laws_eqSnapStepS (ap0_1 : Option Addr) (np0_1 cp0_1 : Nat) (ap1_2 : Option Addr) (np1_2 cp1_2 : Nat) {h : Heap} {R : Value → Heap → Prop} (hm : M_laws_eqSnapStepS ap0_1 np0_1 cp0_1 ap1_2 np1_2 cp1_2 h R) : CallsH PP fn_laws_eqSnapStepS [.slice ap0_1 np0_1 cp0_1, .slice ap1_2 np1_2 cp1_2] h R :=
  callsH_of X0ok Try.func17 (by kernel_rfl) plan_laws_eqSnapStepS [.l (.sl ap0_1 np0_1 cp0_1), .l (.sl ap1_2 np1_2 cp1_2)] (Eq.mpr (congrFun (congrFun (congrFun (congrFun (congrFun (congrFun (congrFun (congrFun tie_laws_eqSnapStepS ap0_1) np0_1) cp0_1) ap1_2) np1_2) cp1_2) h) R) hm)
/- 18: laws.markIntS -/
def M_laws_markIntS (ap0_1 : Option Addr) (np0_1 cp0_1 : Nat) (xp1_2 : Int) (h : Heap) (R : Value → Heap → Prop) : Prop :=
  ∃ (I3 : List Value → Heap → Prop) (μ3 : List Value → Heap → Nat), I3 [.int .i64 xp1_2, .int .i64 0] h ∧
  ∀ h3 : Heap, ∀ (x1_4 : Int), ∀ (x5_5 : Int), I3 [.int .i64 x1_4, .int .i64 x5_5] h3 →
    (((decide ((x5_5 : Int) < ((np0_1 : Nat) : Int))) = true →
      ∃ (b15_6 o15_6 : Nat), ap0_1 = some ⟨b15_6, o15_6, none⟩ ∧ (0 : Int) ≤ x5_5 ∧ (x5_5 : Int) < ((np0_1 : Nat) : Int) ∧
      ∃ (e7 : TypeId) (c7 : List Value), Row h3 b15_6 e7 c7 ∧ o15_6 + x5_5.toNat < c7.length ∧
      ∀ h8 : Heap, h8 = putRow h3 b15_6 e7 (c7.set (o15_6 + x5_5.toNat) (.int .i64 x1_4)) →
      I3 [.int .i64 (IntKind.i64.wrap (x1_4 + 1)), .int .i64 (IntKind.i64.wrap (x5_5 + 1))] h8 ∧ μ3 [.int .i64 (IntKind.i64.wrap (x1_4 + 1)), .int .i64 (IntKind.i64.wrap (x5_5 + 1))] h8 < μ3 [.int .i64 x1_4, .int .i64 x5_5] h3) ∧
    ((decide ((x5_5 : Int) < ((np0_1 : Nat) : Int))) = false →
      R (.int .i64 x1_4) h3))
def plan_laws_markIntS : Plan := .seq none (.leaf) (.seq none (.seq none (.leaf) (.block (.loop [(1, .l (.int .i64)), (5, .l (.int .i64))] (.seq none (.seq none (.leaf) (.cond (.leaf) (.leaf))) (.seq none (.block (.seq none (.leaf) (.leaf))) (.leaf)))))) (.seq none (.leaf) (.leaf)))
theorem tie_laws_markIntS : (fun (ap0_1 : Option Addr) (np0_1 cp0_1 : Nat) (xp1_2 : Int) (h : Heap) (R : Value → Heap → Prop) => denF X0 Try.f18 (bodyOf Try.f18) plan_laws_markIntS [.l (.sl ap0_1 np0_1 cp0_1), .l (.int .i64 xp1_2)] h R) = M_laws_markIntS := by kernel_rfl
theorem calls_laws_markIntS (ap0_1 : Option Addr) (np0_1 cp0_1 : Nat) (xp1_2 : Int) {h : Heap} {R : Value → Heap → Prop} (hm : M_laws_markIntS ap0_1 np0_1 cp0_1 xp1_2 h R) : CallsH PP fn_laws_markIntS [.slice ap0_1 np0_1 cp0_1, .int .i64 xp1_2] h R :=
  callsH_of X0ok Try.func18 (by kernel_rfl) plan_laws_markIntS [.l (.sl ap0_1 np0_1 cp0_1), .l (.int .i64 xp1_2)] (Eq.mpr (congrFun (congrFun (congrFun (congrFun (congrFun (congrFun tie_laws_markIntS ap0_1) np0_1) cp0_1) xp1_2) h) R) hm)
/- 91: laws.markIntSS -/
def M_laws_markIntSS (ap0_1 : Option Addr) (np0_1 cp0_1 : Nat) (xp1_2 : Int) (h : Heap) (R : Value → Heap → Prop) : Prop :=
  ∃ (I3 : List Value → Heap → Prop) (μ3 : List Value → Heap → Nat), I3 [.int .i64 xp1_2, .int .i64 0] h ∧
  ∀ h3 : Heap, ∀ (x1_4 : Int), ∀ (x5_5 : Int), I3 [.int .i64 x1_4, .int .i64 x5_5] h3 →
    (((decide ((x5_5 : Int) < ((np0_1 : Nat) : Int))) = true →
      ∃ (b14_6 o14_6 : Nat), ap0_1 = some ⟨b14_6, o14_6, none⟩ ∧ (0 : Int) ≤ x5_5 ∧ (x5_5 : Int) < ((np0_1 : Nat) : Int) ∧
      ∃ (a15_7 : Option Addr) (n15_7 c15_7 : Nat), cellAt h3 b14_6 (o14_6 + x5_5.toNat) = some (.slice a15_7 n15_7 c15_7) ∧
      CallsH PP fn_laws_markIntS [.slice a15_7 n15_7 c15_7, .int .i64 x1_4] h3 fun (v8 : Value) (h8 : Heap) =>
      ∃ (x17_9 : Int), v8 = .int .i64 x17_9 ∧
      I3 [.int .i64 x17_9, .int .i64 (IntKind.i64.wrap (x5_5 + 1))] h8 ∧ μ3 [.int .i64 x17_9, .int .i64 (IntKind.i64.wrap (x5_5 + 1))] h8 < μ3 [.int .i64 x1_4, .int .i64 x5_5] h3) ∧
    ((decide ((x5_5 : Int) < ((np0_1 : Nat) : Int))) = false →
      R (.int .i64 x1_4) h3))
def plan_laws_markIntSS : Plan := .seq none (.leaf) (.seq none (.seq none (.leaf) (.block (.loop [(1, .l (.int .i64)), (5, .l (.int .i64))] (.seq none (.seq none (.leaf) (.cond (.leaf) (.leaf))) (.seq none (.block (.leaf)) (.leaf)))))) (.seq none (.leaf) (.leaf)))
theorem tie_laws_markIntSS : (fun (ap0_1 : Option Addr) (np0_1 cp0_1 : Nat) (xp1_2 : Int) (h : Heap) (R : Value → Heap → Prop) => denF X0 Try.f91 (bodyOf Try.f91) plan_laws_markIntSS [.l (.sl ap0_1 np0_1 cp0_1), .l (.int .i64 xp1_2)] h R) = M_laws_markIntSS := by kernel_rfl
theorem calls_laws_markIntSS (ap0_1 : Option Addr) (np0_1 cp0_1 : Nat) (xp1_2 : Int) {h : Heap} {R : Value → Heap → Prop} (hm : M_laws_markIntSS ap0_1 np0_1 cp0_1 xp1_2 h R) : CallsH PP fn_laws_markIntSS [.slice ap0_1 np0_1 cp0_1, .int .i64 xp1_2] h R :=
  callsH_of X0ok Try.func91 (by kernel_rfl) plan_laws_markIntSS [.l (.sl ap0_1 np0_1 cp0_1), .l (.int .i64 xp1_2)] (Eq.mpr (congrFun (congrFun (congrFun (congrFun (congrFun (congrFun tie_laws_markIntSS ap0_1) np0_1) cp0_1) xp1_2) h) R) hm)
/- 21: laws.markBoolS -/
def M_laws_markBoolS (ap0_1 : Option Addr) (np0_1 cp0_1 : Nat) (xp1_2 : Int) (h : Heap) (R : Value → Heap → Prop) : Prop :=
  ∃ (I3 : List Value → Heap → Prop) (μ3 : List Value → Heap → Nat), I3 [.int .i64 xp1_2, .int .i64 0] h ∧
  ∀ h3 : Heap, ∀ (x1_4 : Int), ∀ (x5_5 : Int), I3 [.int .i64 x1_4, .int .i64 x5_5] h3 →
    (((decide ((x5_5 : Int) < ((np0_1 : Nat) : Int))) = true →
      (3 : Int) ≠ 0 ∧
      ∃ (b17_6 o17_6 : Nat), ap0_1 = some ⟨b17_6, o17_6, none⟩ ∧ (0 : Int) ≤ x5_5 ∧ (x5_5 : Int) < ((np0_1 : Nat) : Int) ∧
      ∃ (e7 : TypeId) (c7 : List Value), Row h3 b17_6 e7 c7 ∧ o17_6 + x5_5.toNat < c7.length ∧
      ∀ h8 : Heap, h8 = putRow h3 b17_6 e7 (c7.set (o17_6 + x5_5.toNat) (.bool (((Int.tmod x1_4 3) : Int) == 0))) →
      I3 [.int .i64 (IntKind.i64.wrap (x1_4 + 1)), .int .i64 (IntKind.i64.wrap (x5_5 + 1))] h8 ∧ μ3 [.int .i64 (IntKind.i64.wrap (x1_4 + 1)), .int .i64 (IntKind.i64.wrap (x5_5 + 1))] h8 < μ3 [.int .i64 x1_4, .int .i64 x5_5] h3) ∧
    ((decide ((x5_5 : Int) < ((np0_1 : Nat) : Int))) = false →
      R (.int .i64 x1_4) h3))
def plan_laws_markBoolS : Plan := .seq none (.leaf) (.seq none (.seq none (.leaf) (.block (.loop [(1, .l (.int .i64)), (5, .l (.int .i64))] (.seq none (.seq none (.leaf) (.cond (.leaf) (.leaf))) (.seq none (.block (.seq none (.leaf) (.leaf))) (.leaf)))))) (.seq none (.leaf) (.leaf)))
theorem tie_laws_markBoolS : (fun (ap0_1 : Option Addr) (np0_1 cp0_1 : Nat) (xp1_2 : Int) (h : Heap) (R : Value → Heap → Prop) => denF X0 Try.f21 (bodyOf Try.f21) plan_laws_markBoolS [.l (.sl ap0_1 np0_1 cp0_1), .l (.int .i64 xp1_2)] h R) = M_laws_markBoolS := by kernel_rfl
theorem calls_laws_markBoolS (ap0_1 : Option Addr) (np0_1 cp0_1 : Nat) (xp1_2 : Int) {h : Heap} {R : Value → Heap → Prop} (hm : M_laws_markBoolS ap0_1 np0_1 cp0_1 xp1_2 h R) : CallsH PP fn_laws_markBoolS [.slice ap0_1 np0_1 cp0_1, .int .i64 xp1_2] h R :=
  callsH_of X0ok Try.func21 (by kernel_rfl) plan_laws_markBoolS [.l (.sl ap0_1 np0_1 cp0_1), .l (.int .i64 xp1_2)] (Eq.mpr (congrFun (congrFun (congrFun (congrFun (congrFun (congrFun tie_laws_markBoolS ap0_1) np0_1) cp0_1) xp1_2) h) R) hm)
/- 92: laws.markBoolSS -/
def M_laws_markBoolSS (ap0_1 : Option Addr) (np0_1 cp0_1 : Nat) (xp1_2 : Int) (h : Heap) (R : Value → Heap → Prop) : Prop :=
  ∃ (I3 : List Value → Heap → Prop) (μ3 : List Value → Heap → Nat), I3 [.int .i64 xp1_2, .int .i64 0] h ∧
  ∀ h3 : Heap, ∀ (x1_4 : Int), ∀ (x5_5 : Int), I3 [.int .i64 x1_4, .int .i64 x5_5] h3 →
    (((decide ((x5_5 : Int) < ((np0_1 : Nat) : Int))) = true →
      ∃ (b14_6 o14_6 : Nat), ap0_1 = some ⟨b14_6, o14_6, none⟩ ∧ (0 : Int) ≤ x5_5 ∧ (x5_5 : Int) < ((np0_1 : Nat) : Int) ∧
      ∃ (a15_7 : Option Addr) (n15_7 c15_7 : Nat), cellAt h3 b14_6 (o14_6 + x5_5.toNat) = some (.slice a15_7 n15_7 c15_7) ∧
      CallsH PP fn_laws_markBoolS [.slice a15_7 n15_7 c15_7, .int .i64 x1_4] h3 fun (v8 : Value) (h8 : Heap) =>
      ∃ (x17_9 : Int), v8 = .int .i64 x17_9 ∧
      I3 [.int .i64 x17_9, .int .i64 (IntKind.i64.wrap (x5_5 + 1))] h8 ∧ μ3 [.int .i64 x17_9, .int .i64 (IntKind.i64.wrap (x5_5 + 1))] h8 < μ3 [.int .i64 x1_4, .int .i64 x5_5] h3) ∧
    ((decide ((x5_5 : Int) < ((np0_1 : Nat) : Int))) = false →
      R (.int .i64 x1_4) h3))
def plan_laws_markBoolSS : Plan := .seq none (.leaf) (.seq none (.seq none (.leaf) (.block (.loop [(1, .l (.int .i64)), (5, .l (.int .i64))] (.seq none (.seq none (.leaf) (.cond (.leaf) (.leaf))) (.seq none (.block (.leaf)) (.leaf)))))) (.seq none (.leaf) (.leaf)))
theorem tie_laws_markBoolSS : (fun (ap0_1 : Option Addr) (np0_1 cp0_1 : Nat) (xp1_2 : Int) (h : Heap) (R : Value → Heap → Prop) => denF X0 Try.f92 (bodyOf Try.f92) plan_laws_markBoolSS [.l (.sl ap0_1 np0_1 cp0_1), .l (.int .i64 xp1_2)] h R) = M_laws_markBoolSS := by kernel_rfl
theorem calls_laws_markBoolSS (ap0_1 : Option Addr) (np0_1 cp0_1 : Nat) (xp1_2 : Int) {h : Heap} {R : Value → Heap → Prop} (hm : M_laws_markBoolSS ap0_1 np0_1 cp0_1 xp1_2 h R) : CallsH PP fn_laws_markBoolSS [.slice ap0_1 np0_1 cp0_1, .int .i64 xp1_2] h R :=
  callsH_of X0ok Try.func92 (by kernel_rfl) plan_laws_markBoolSS [.l (.sl ap0_1 np0_1 cp0_1), .l (.int .i64 xp1_2)] (Eq.mpr (congrFun (congrFun (congrFun (congrFun (congrFun (congrFun tie_laws_markBoolSS ap0_1) np0_1) cp0_1) xp1_2) h) R) hm)
/- 19: laws.markSnapStepS -/
def M_laws_markSnapStepS (ap0_1 : Option Addr) (np0_1 cp0_1 : Nat) (xp1_2 : Int) (h : Heap) (R : Value → Heap → Prop) : Prop :=
  ∃ (I3 : List Value → Heap → Prop) (μ3 : List Value → Heap → Nat), I3 [.int .i64 xp1_2, .int .i64 0] h ∧
  ∀ h3 : Heap, ∀ (x1_4 : Int), ∀ (x5_5 : Int), I3 [.int .i64 x1_4, .int .i64 x5_5] h3 →
    (((decide ((x5_5 : Int) < ((np0_1 : Nat) : Int))) = true →
      ∃ (b15_6 o15_6 : Nat), ap0_1 = some ⟨b15_6, o15_6, none⟩ ∧ (0 : Int) ≤ x5_5 ∧ (x5_5 : Int) < ((np0_1 : Nat) : Int) ∧
      ∃ (e7 : TypeId) (c7 : List Value), Row h3 b15_6 e7 c7 ∧ o15_6 + (x5_5.toNat * 4) < c7.length ∧
      ∀ h8 : Heap, h8 = putRow h3 b15_6 e7 (c7.set (o15_6 + (x5_5.toNat * 4)) (.int .i64 x1_4)) →
      ∃ (b22_9 o22_9 : Nat), ap0_1 = some ⟨b22_9, o22_9, none⟩ ∧ (0 : Int) ≤ x5_5 ∧ (x5_5 : Int) < ((np0_1 : Nat) : Int) ∧
      ∃ (e10 : TypeId) (c10 : List Value), Row h8 b22_9 e10 c10 ∧ o22_9 + (x5_5.toNat * 4) + 1 < c10.length ∧
      ∀ h11 : Heap, h11 = putRow h8 b22_9 e10 (c10.set (o22_9 + (x5_5.toNat * 4) + 1) (.int .i64 (IntKind.i64.wrap (x1_4 + 1)))) →
      ∃ (b29_12 o29_12 : Nat), ap0_1 = some ⟨b29_12, o29_12, none⟩ ∧ (0 : Int) ≤ x5_5 ∧ (x5_5 : Int) < ((np0_1 : Nat) : Int) ∧
      ∃ (e13 : TypeId) (c13 : List Value), Row h11 b29_12 e13 c13 ∧ o29_12 + (x5_5.toNat * 4) + 2 < c13.length ∧
      ∀ h14 : Heap, h14 = putRow h11 b29_12 e13 (c13.set (o29_12 + (x5_5.toNat * 4) + 2) (.int .i64 (IntKind.i64.wrap ((IntKind.i64.wrap (x1_4 + 1)) + 1)))) →
      ∃ (b36_15 o36_15 : Nat), ap0_1 = some ⟨b36_15, o36_15, none⟩ ∧ (0 : Int) ≤ x5_5 ∧ (x5_5 : Int) < ((np0_1 : Nat) : Int) ∧
      ∃ (e16 : TypeId) (c16 : List Value), Row h14 b36_15 e16 c16 ∧ o36_15 + (x5_5.toNat * 4) + 3 < c16.length ∧
      ∀ h17 : Heap, h17 = putRow h14 b36_15 e16 (c16.set (o36_15 + (x5_5.toNat * 4) + 3) (.int .i64 (IntKind.i64.wrap ((IntKind.i64.wrap ((IntKind.i64.wrap (x1_4 + 1)) + 1)) + 1)))) →
      I3 [.int .i64 (IntKind.i64.wrap ((IntKind.i64.wrap ((IntKind.i64.wrap ((IntKind.i64.wrap (x1_4 + 1)) + 1)) + 1)) + 1)), .int .i64 (IntKind.i64.wrap (x5_5 + 1))] h17 ∧ μ3 [.int .i64 (IntKind.i64.wrap ((IntKind.i64.wrap ((IntKind.i64.wrap ((IntKind.i64.wrap (x1_4 + 1)) + 1)) + 1)) + 1)), .int .i64 (IntKind.i64.wrap (x5_5 + 1))] h17 < μ3 [.int .i64 x1_4, .int .i64 x5_5] h3) ∧
    ((decide ((x5_5 : Int) < ((np0_1 : Nat) : Int))) = false →
      R (.int .i64 x1_4) h3))
def plan_laws_markSnapStepS : Plan := .seq none (.leaf) (.seq none (.seq none (.leaf) (.block (.loop [(1, .l (.int .i64)), (5, .l (.int .i64))] (.seq none (.seq none (.leaf) (.cond (.leaf) (.leaf))) (.seq none (.block (.seq none (.leaf) (.seq none (.leaf) (.seq none (.leaf) (.seq none (.leaf) (.seq none (.leaf) (.seq none (.leaf) (.seq none (.leaf) (.leaf))))))))) (.leaf)))))) (.seq none (.leaf) (.leaf)))
theorem tie_laws_markSnapStepS : (fun (ap0_1 : Option Addr) (np0_1 cp0_1 : Nat) (xp1_2 : Int) (h : Heap) (R : Value → Heap → Prop) => denF X0 Try.f19 (bodyOf Try.f19) plan_laws_markSnapStepS [.l (.sl ap0_1 np0_1 cp0_1), .l (.int .i64 xp1_2)] h R) = M_laws_markSnapStepS := by kernel_rfl
theorem calls_laws_markSnapStepS (ap0_1 : Option Addr) (np0_1 cp0_1 : Nat) (xp1_2 : Int) {h : Heap} {R : Value → Heap → Prop} (hm : M_laws_markSnapStepS ap0_1 np0_1 cp0_1 xp1_2 h R) : CallsH PP fn_laws_markSnapStepS [.slice ap0_1 np0_1 cp0_1, .int .i64 xp1_2] h R :=
  callsH_of X0ok Try.func19 (by kernel_rfl) plan_laws_markSnapStepS [.l (.sl ap0_1 np0_1 cp0_1), .l (.int .i64 xp1_2)] (Eq.mpr (congrFun (congrFun (congrFun (congrFun (congrFun (congrFun tie_laws_markSnapStepS ap0_1) np0_1) cp0_1) xp1_2) h) R) hm)
/- 47: laws.heldIntS -/
def M_laws_heldIntS (ap0_1 : Option Addr) (np0_1 cp0_1 : Nat) (xp1_2 : Int) (h : Heap) (R : Value → Heap → Prop) : Prop :=
  ∃ (I3 : List Value → Heap → Prop) (μ3 : List Value → Heap → Nat), I3 [.int .i64 xp1_2, .int .i64 0] h ∧
  ∀ h3 : Heap, ∀ (x1_4 : Int), ∀ (x5_5 : Int), I3 [.int .i64 x1_4, .int .i64 x5_5] h3 →
    (((decide ((x5_5 : Int) < ((np0_1 : Nat) : Int))) = true →
      ∃ (b14_6 o14_6 : Nat), ap0_1 = some ⟨b14_6, o14_6, none⟩ ∧ (0 : Int) ≤ x5_5 ∧ (x5_5 : Int) < ((np0_1 : Nat) : Int) ∧
      ∃ (x15_7 : Int), cellAt h3 b14_6 (o14_6 + x5_5.toNat) = some (.int .i64 x15_7) ∧
      ((((x15_7 : Int) != x1_4) = true →
        R (.int .i64 (-1)) h3) ∧
      (((x15_7 : Int) != x1_4) = false →
        I3 [.int .i64 (IntKind.i64.wrap (x1_4 + 1)), .int .i64 (IntKind.i64.wrap (x5_5 + 1))] h3 ∧ μ3 [.int .i64 (IntKind.i64.wrap (x1_4 + 1)), .int .i64 (IntKind.i64.wrap (x5_5 + 1))] h3 < μ3 [.int .i64 x1_4, .int .i64 x5_5] h3))) ∧
    ((decide ((x5_5 : Int) < ((np0_1 : Nat) : Int))) = false →
      R (.int .i64 x1_4) h3))
def plan_laws_heldIntS : Plan := .seq none (.leaf) (.seq none (.seq none (.leaf) (.block (.loop [(1, .l (.int .i64)), (5, .l (.int .i64))] (.seq none (.seq none (.leaf) (.cond (.leaf) (.leaf))) (.seq none (.block (.seq none (.seq none (.leaf) (.cond (.seq none (.leaf) (.leaf)) (.leaf))) (.leaf))) (.leaf)))))) (.seq none (.leaf) (.leaf)))
theorem tie_laws_heldIntS : (fun (ap0_1 : Option Addr) (np0_1 cp0_1 : Nat) (xp1_2 : Int) (h : Heap) (R : Value → Heap → Prop) => denF X0 Try.f47 (bodyOf Try.f47) plan_laws_heldIntS [.l (.sl ap0_1 np0_1 cp0_1), .l (.int .i64 xp1_2)] h R) = M_laws_heldIntS := by kernel_rfl
theorem calls_laws_heldIntS (ap0_1 : Option Addr) (np0_1 cp0_1 : Nat) (xp1_2 : Int) {h : Heap} {R : Value → Heap → Prop} (hm : M_laws_heldIntS ap0_1 np0_1 cp0_1 xp1_2 h R) : CallsH PP fn_laws_heldIntS [.slice ap0_1 np0_1 cp0_1, .int .i64 xp1_2] h R :=
  callsH_of X0ok Try.func47 (by kernel_rfl) plan_laws_heldIntS [.l (.sl ap0_1 np0_1 cp0_1), .l (.int .i64 xp1_2)] (Eq.mpr (congrFun (congrFun (congrFun (congrFun (congrFun (congrFun tie_laws_heldIntS ap0_1) np0_1) cp0_1) xp1_2) h) R) hm)
/- 93: laws.heldIntSS -/
def M_laws_heldIntSS (ap0_1 : Option Addr) (np0_1 cp0_1 : Nat) (xp1_2 : Int) (h : Heap) (R : Value → Heap → Prop) : Prop :=
  ∃ (I3 : List Value → Heap → Prop) (μ3 : List Value → Heap → Nat), I3 [.int .i64 xp1_2, .int .i64 0] h ∧
  ∀ h3 : Heap, ∀ (x1_4 : Int), ∀ (x5_5 : Int), I3 [.int .i64 x1_4, .int .i64 x5_5] h3 →
    (((decide ((x5_5 : Int) < ((np0_1 : Nat) : Int))) = true →
      ∃ (b14_6 o14_6 : Nat), ap0_1 = some ⟨b14_6, o14_6, none⟩ ∧ (0 : Int) ≤ x5_5 ∧ (x5_5 : Int) < ((np0_1 : Nat) : Int) ∧
      ∃ (a15_7 : Option Addr) (n15_7 c15_7 : Nat), cellAt h3 b14_6 (o14_6 + x5_5.toNat) = some (.slice a15_7 n15_7 c15_7) ∧
      CallsH PP fn_laws_heldIntS [.slice a15_7 n15_7 c15_7, .int .i64 x1_4] h3 fun (v8 : Value) (h8 : Heap) =>
      ∃ (x17_9 : Int), v8 = .int .i64 x17_9 ∧
      (((decide ((x17_9 : Int) < 0)) = true →
        R (.int .i64 (-1)) h8) ∧
      ((decide ((x17_9 : Int) < 0)) = false →
        I3 [.int .i64 x17_9, .int .i64 (IntKind.i64.wrap (x5_5 + 1))] h8 ∧ μ3 [.int .i64 x17_9, .int .i64 (IntKind.i64.wrap (x5_5 + 1))] h8 < μ3 [.int .i64 x1_4, .int .i64 x5_5] h3))) ∧
    ((decide ((x5_5 : Int) < ((np0_1 : Nat) : Int))) = false →
      R (.int .i64 x1_4) h3))
def plan_laws_heldIntSS : Plan := .seq none (.leaf) (.seq none (.seq none (.leaf) (.block (.loop [(1, .l (.int .i64)), (5, .l (.int .i64))] (.seq none (.seq none (.leaf) (.cond (.leaf) (.leaf))) (.seq none (.block (.seq none (.leaf) (.seq none (.leaf) (.cond (.seq none (.leaf) (.leaf)) (.leaf))))) (.leaf)))))) (.seq none (.leaf) (.leaf)))
theorem tie_laws_heldIntSS : (fun (ap0_1 : Option Addr) (np0_1 cp0_1 : Nat) (xp1_2 : Int) (h : Heap) (R : Value → Heap → Prop) => denF X0 Try.f93 (bodyOf Try.f93) plan_laws_heldIntSS [.l (.sl ap0_1 np0_1 cp0_1), .l (.int .i64 xp1_2)] h R) = M_laws_heldIntSS := by kernel_rfl
theorem calls_laws_heldIntSS (ap0_1 : Option Addr) (np0_1 cp0_1 : Nat) (xp1_2 : Int) {h : Heap} {R : Value → Heap → Prop} (hm : M_laws_heldIntSS ap0_1 np0_1 cp0_1 xp1_2 h R) : CallsH PP fn_laws_heldIntSS [.slice ap0_1 np0_1 cp0_1, .int .i64 xp1_2] h R :=
  callsH_of X0ok Try.func93 (by kernel_rfl) plan_laws_heldIntSS [.l (.sl ap0_1 np0_1 cp0_1), .l (.int .i64 xp1_2)] (Eq.mpr (congrFun (congrFun (congrFun (congrFun (congrFun (congrFun tie_laws_heldIntSS ap0_1) np0_1) cp0_1) xp1_2) h) R) hm)
/- 23: laws.heldBoolS -/
def M_laws_heldBoolS (ap0_1 : Option Addr) (np0_1 cp0_1 : Nat) (xp1_2 : Int) (h : Heap) (R : Value → Heap → Prop) : Prop :=
  ∃ (I3 : List Value → Heap → Prop) (μ3 : List Value → Heap → Nat), I3 [.int .i64 xp1_2, .int .i64 0] h ∧
  ∀ h3 : Heap, ∀ (x1_4 : Int), ∀ (x5_5 : Int), I3 [.int .i64 x1_4, .int .i64 x5_5] h3 →
    (((decide ((x5_5 : Int) < ((np0_1 : Nat) : Int))) = true →
      ∃ (b14_6 o14_6 : Nat), ap0_1 = some ⟨b14_6, o14_6, none⟩ ∧ (0 : Int) ≤ x5_5 ∧ (x5_5 : Int) < ((np0_1 : Nat) : Int) ∧
      ∃ (t15_7 : Bool), cellAt h3 b14_6 (o14_6 + x5_5.toNat) = some (.bool t15_7) ∧
      (3 : Int) ≠ 0 ∧
      (((!(t15_7 == (((Int.tmod x1_4 3) : Int) == 0))) = true →
        R (.int .i64 (-1)) h3) ∧
      ((!(t15_7 == (((Int.tmod x1_4 3) : Int) == 0))) = false →
        I3 [.int .i64 (IntKind.i64.wrap (x1_4 + 1)), .int .i64 (IntKind.i64.wrap (x5_5 + 1))] h3 ∧ μ3 [.int .i64 (IntKind.i64.wrap (x1_4 + 1)), .int .i64 (IntKind.i64.wrap (x5_5 + 1))] h3 < μ3 [.int .i64 x1_4, .int .i64 x5_5] h3))) ∧
    ((decide ((x5_5 : Int) < ((np0_1 : Nat) : Int))) = false →
      R (.int .i64 x1_4) h3))
def plan_laws_heldBoolS : Plan := .seq none (.leaf) (.seq none (.seq none (.leaf) (.block (.loop [(1, .l (.int .i64)), (5, .l (.int .i64))] (.seq none (.seq none (.leaf) (.cond (.leaf) (.leaf))) (.seq none (.block (.seq none (.seq none (.leaf) (.cond (.seq none (.leaf) (.leaf)) (.leaf))) (.leaf))) (.leaf)))))) (.seq none (.leaf) (.leaf)))
theorem tie_laws_heldBoolS : (fun (ap0_1 : Option Addr) (np0_1 cp0_1 : Nat) (xp1_2 : Int) (h : Heap) (R : Value → Heap → Prop) => denF X0 Try.f23 (bodyOf Try.f23) plan_laws_heldBoolS [.l (.sl ap0_1 np0_1 cp0_1), .l (.int .i64 xp1_2)] h R) = M_laws_heldBoolS := by kernel_rfl
theorem calls_laws_heldBoolS (ap0_1 : Option Addr) (np0_1 cp0_1 : Nat) (xp1_2 : Int) {h : Heap} {R : Value → Heap → Prop} (hm : M_laws_heldBoolS ap0_1 np0_1 cp0_1 xp1_2 h R) : CallsH PP fn_laws_heldBoolS [.slice ap0_1 np0_1 cp0_1, .int .i64 xp1_2] h R :=
  callsH_of X0ok Try.func23 (by kernel_rfl) plan_laws_heldBoolS [.l (.sl ap0_1 np0_1 cp0_1), .l (.int .i64 xp1_2)] (Eq.mpr (congrFun (congrFun (congrFun (congrFun (congrFun (congrFun tie_laws_heldBoolS ap0_1) np0_1) cp0_1) xp1_2) h) R) hm)
/- 94: laws.heldBoolSS -/
def M_laws_heldBoolSS (ap0_1 : Option Addr) (np0_1 cp0_1 : Nat) (xp1_2 : Int) (h : Heap) (R : Value → Heap → Prop) : Prop :=
  ∃ (I3 : List Value → Heap → Prop) (μ3 : List Value → Heap → Nat), I3 [.int .i64 xp1_2, .int .i64 0] h ∧
  ∀ h3 : Heap, ∀ (x1_4 : Int), ∀ (x5_5 : Int), I3 [.int .i64 x1_4, .int .i64 x5_5] h3 →
    (((decide ((x5_5 : Int) < ((np0_1 : Nat) : Int))) = true →
      ∃ (b14_6 o14_6 : Nat), ap0_1 = some ⟨b14_6, o14_6, none⟩ ∧ (0 : Int) ≤ x5_5 ∧ (x5_5 : Int) < ((np0_1 : Nat) : Int) ∧
      ∃ (a15_7 : Option Addr) (n15_7 c15_7 : Nat), cellAt h3 b14_6 (o14_6 + x5_5.toNat) = some (.slice a15_7 n15_7 c15_7) ∧
      CallsH PP fn_laws_heldBoolS [.slice a15_7 n15_7 c15_7, .int .i64 x1_4] h3 fun (v8 : Value) (h8 : Heap) =>
      ∃ (x17_9 : Int), v8 = .int .i64 x17_9 ∧
      (((decide ((x17_9 : Int) < 0)) = true →
        R (.int .i64 (-1)) h8) ∧
      ((decide ((x17_9 : Int) < 0)) = false →
        I3 [.int .i64 x17_9, .int .i64 (IntKind.i64.wrap (x5_5 + 1))] h8 ∧ μ3 [.int .i64 x17_9, .int .i64 (IntKind.i64.wrap (x5_5 + 1))] h8 < μ3 [.int .i64 x1_4, .int .i64 x5_5] h3))) ∧
    ((decide ((x5_5 : Int) < ((np0_1 : Nat) : Int))) = false →
      R (.int .i64 x1_4) h3))
def plan_laws_heldBoolSS : Plan := .seq none (.leaf) (.seq none (.seq none (.leaf) (.block (.loop [(1, .l (.int .i64)), (5, .l (.int .i64))] (.seq none (.seq none (.leaf) (.cond (.leaf) (.leaf))) (.seq none (.block (.seq none (.leaf) (.seq none (.leaf) (.cond (.seq none (.leaf) (.leaf)) (.leaf))))) (.leaf)))))) (.seq none (.leaf) (.leaf)))
theorem tie_laws_heldBoolSS : (fun (ap0_1 : Option Addr) (np0_1 cp0_1 : Nat) (xp1_2 : Int) (h : Heap) (R : Value → Heap → Prop) => denF X0 Try.f94 (bodyOf Try.f94) plan_laws_heldBoolSS [.l (.sl ap0_1 np0_1 cp0_1), .l (.int .i64 xp1_2)] h R) = M_laws_heldBoolSS := by kernel_rfl
theorem calls_laws_heldBoolSS (ap0_1 : Option Addr) (np0_1 cp0_1 : Nat) (xp1_2 : Int) {h : Heap} {R : Value → Heap → Prop} (hm : M_laws_heldBoolSS ap0_1 np0_1 cp0_1 xp1_2 h R) : CallsH PP fn_laws_heldBoolSS [.slice ap0_1 np0_1 cp0_1, .int .i64 xp1_2] h R :=
  callsH_of X0ok Try.func94 (by kernel_rfl) plan_laws_heldBoolSS [.l (.sl ap0_1 np0_1 cp0_1), .l (.int .i64 xp1_2)] (Eq.mpr (congrFun (congrFun (congrFun (congrFun (congrFun (congrFun tie_laws_heldBoolSS ap0_1) np0_1) cp0_1) xp1_2) h) R) hm)
/- 14: laws.eqBank -/
def M_laws_eqBank (ap0_0_1 : Option Addr) (np0_0_1 cp0_0_1 : Nat) (ap0_1_2 : Option Addr) (np0_1_2 cp0_1_2 : Nat) (ap0_2_3 : Option Addr) (np0_2_3 cp0_2_3 : Nat) (ap0_3_4 : Option Addr) (np0_3_4 cp0_3_4 : Nat) (ap0_4_5 : Option Addr) (np0_4_5 cp0_4_5 : Nat) (ap1_0_6 : Option Addr) (np1_0_6 cp1_0_6 : Nat) (ap1_1_7 : Option Addr) (np1_1_7 cp1_1_7 : Nat) (ap1_2_8 : Option Addr) (np1_2_8 cp1_2_8 : Nat) (ap1_3_9 : Option Addr) (np1_3_9 cp1_3_9 : Nat) (ap1_4_10 : Option Addr) (np1_4_10 cp1_4_10 : Nat) (h : Heap) (R : Value → Heap → Prop) : Prop :=
  ∀ h11 : Heap, h11 = newRowH h ty_impl_Bank [.slice ap0_0_1 np0_0_1 cp0_0_1, .slice ap0_1_2 np0_1_2 cp0_1_2, .slice ap0_2_3 np0_2_3 cp0_2_3, .slice ap0_3_4 np0_3_4 cp0_3_4, .slice ap0_4_5 np0_4_5 cp0_4_5] →
  ∀ h12 : Heap, h12 = newRowH h11 ty_impl_Bank [.slice ap1_0_6 np1_0_6 cp1_0_6, .slice ap1_1_7 np1_1_7 cp1_1_7, .slice ap1_2_8 np1_2_8 cp1_2_8, .slice ap1_3_9 np1_3_9 cp1_3_9, .slice ap1_4_10 np1_4_10 cp1_4_10] →
  ∃ (a6_13 : Option Addr) (n6_13 c6_13 : Nat), cellAt h12 h.size 0 = some (.slice a6_13 n6_13 c6_13) ∧
  ∃ (a8_14 : Option Addr) (n8_14 c8_14 : Nat), cellAt h12 h11.size 0 = some (.slice a8_14 n8_14 c8_14) ∧
  CallsH PP fn_laws_eqIntS [.slice a6_13 n6_13 c6_13, .slice a8_14 n8_14 c8_14] h12 fun (v15 : Value) (h15 : Heap) =>
  ∃ (t9_16 : Bool), v15 = .bool t9_16 ∧
  (((!t9_16) = true →
    R (.bool false) h15) ∧
  ((!t9_16) = false →
    ∃ (a12_17 : Option Addr) (n12_17 c12_17 : Nat), cellAt h15 h.size 1 = some (.slice a12_17 n12_17 c12_17) ∧
    ∃ (a14_18 : Option Addr) (n14_18 c14_18 : Nat), cellAt h15 h11.size 1 = some (.slice a14_18 n14_18 c14_18) ∧
    CallsH PP fn_laws_eqIntSS [.slice a12_17 n12_17 c12_17, .slice a14_18 n14_18 c14_18] h15 fun (v19 : Value) (h19 : Heap) =>
    ∃ (t15_20 : Bool), v19 = .bool t15_20 ∧
    (((!t15_20) = true →
      R (.bool false) h19) ∧
    ((!t15_20) = false →
      ∃ (a18_21 : Option Addr) (n18_21 c18_21 : Nat), cellAt h19 h.size 2 = some (.slice a18_21 n18_21 c18_21) ∧
      ∃ (a20_22 : Option Addr) (n20_22 c20_22 : Nat), cellAt h19 h11.size 2 = some (.slice a20_22 n20_22 c20_22) ∧
      CallsH PP fn_laws_eqIntS [.slice a18_21 n18_21 c18_21, .slice a20_22 n20_22 c20_22] h19 fun (v23 : Value) (h23 : Heap) =>
      ∃ (t21_24 : Bool), v23 = .bool t21_24 ∧
      (((!t21_24) = true →
        R (.bool false) h23) ∧
      ((!t21_24) = false →
        ∃ (a24_25 : Option Addr) (n24_25 c24_25 : Nat), cellAt h23 h.size 3 = some (.slice a24_25 n24_25 c24_25) ∧
        ∃ (a26_26 : Option Addr) (n26_26 c26_26 : Nat), cellAt h23 h11.size 3 = some (.slice a26_26 n26_26 c26_26) ∧
        CallsH PP fn_laws_eqBoolSS [.slice a24_25 n24_25 c24_25, .slice a26_26 n26_26 c26_26] h23 fun (v27 : Value) (h27 : Heap) =>
        ∃ (t27_28 : Bool), v27 = .bool t27_28 ∧
        (((!t27_28) = true →
          R (.bool false) h27) ∧
        ((!t27_28) = false →
          ∃ (a30_29 : Option Addr) (n30_29 c30_29 : Nat), cellAt h27 h.size 4 = some (.slice a30_29 n30_29 c30_29) ∧
          ∃ (a32_30 : Option Addr) (n32_30 c32_30 : Nat), cellAt h27 h11.size 4 = some (.slice a32_30 n32_30 c32_30) ∧
          CallsH PP fn_laws_eqIntSS [.slice a30_29 n30_29 c30_29, .slice a32_30 n32_30 c32_30] h27 fun (v31 : Value) (h31 : Heap) =>
          ∃ (t33_32 : Bool), v31 = .bool t33_32 ∧
          (((!t33_32) = true →
            R (.bool false) h31) ∧
          ((!t33_32) = false →
            R (.bool true) h31))))))))))
def plan_laws_eqBank : Plan := .seq none (.leaf) (.seq none (.seq none (.leaf) (.cond (.seq none (.leaf) (.leaf)) (.leaf))) (.seq none (.seq none (.leaf) (.cond (.seq none (.leaf) (.leaf)) (.leaf))) (.seq none (.seq none (.leaf) (.cond (.seq none (.leaf) (.leaf)) (.leaf))) (.seq none (.seq none (.leaf) (.cond (.seq none (.leaf) (.leaf)) (.leaf))) (.seq none (.seq none (.leaf) (.cond (.seq none (.leaf) (.leaf)) (.leaf))) (.seq none (.leaf) (.leaf)))))))
theorem tie_laws_eqBank : (fun (ap0_0_1 : Option Addr) (np0_0_1 cp0_0_1 : Nat) (ap0_1_2 : Option Addr) (np0_1_2 cp0_1_2 : Nat) (ap0_2_3 : Option Addr) (np0_2_3 cp0_2_3 : Nat) (ap0_3_4 : Option Addr) (np0_3_4 cp0_3_4 : Nat) (ap0_4_5 : Option Addr) (np0_4_5 cp0_4_5 : Nat) (ap1_0_6 : Option Addr) (np1_0_6 cp1_0_6 : Nat) (ap1_1_7 : Option Addr) (np1_1_7 cp1_1_7 : Nat) (ap1_2_8 : Option Addr) (np1_2_8 cp1_2_8 : Nat) (ap1_3_9 : Option Addr) (np1_3_9 cp1_3_9 : Nat) (ap1_4_10 : Option Addr) (np1_4_10 cp1_4_10 : Nat) (h : Heap) (R : Value → Heap → Prop) => denF X0 Try.f14 (bodyOf Try.f14) plan_laws_eqBank [.agg [.sl ap0_0_1 np0_0_1 cp0_0_1, .sl ap0_1_2 np0_1_2 cp0_1_2, .sl ap0_2_3 np0_2_3 cp0_2_3, .sl ap0_3_4 np0_3_4 cp0_3_4, .sl ap0_4_5 np0_4_5 cp0_4_5], .agg [.sl ap1_0_6 np1_0_6 cp1_0_6, .sl ap1_1_7 np1_1_7 cp1_1_7, .sl ap1_2_8 np1_2_8 cp1_2_8, .sl ap1_3_9 np1_3_9 cp1_3_9, .sl ap1_4_10 np1_4_10 cp1_4_10]] h R) = M_laws_eqBank := by kernel_rfl
theorem calls_laws_eqBank (ap0_0_1 : Option Addr) (np0_0_1 cp0_0_1 : Nat) (ap0_1_2 : Option Addr) (np0_1_2 cp0_1_2 : Nat) (ap0_2_3 : Option Addr) (np0_2_3 cp0_2_3 : Nat) (ap0_3_4 : Option Addr) (np0_3_4 cp0_3_4 : Nat) (ap0_4_5 : Option Addr) (np0_4_5 cp0_4_5 : Nat) (ap1_0_6 : Option Addr) (np1_0_6 cp1_0_6 : Nat) (ap1_1_7 : Option Addr) (np1_1_7 cp1_1_7 : Nat) (ap1_2_8 : Option Addr) (np1_2_8 cp1_2_8 : Nat) (ap1_3_9 : Option Addr) (np1_3_9 cp1_3_9 : Nat) (ap1_4_10 : Option Addr) (np1_4_10 cp1_4_10 : Nat) {h : Heap} {R : Value → Heap → Prop} (hm : M_laws_eqBank ap0_0_1 np0_0_1 cp0_0_1 ap0_1_2 np0_1_2 cp0_1_2 ap0_2_3 np0_2_3 cp0_2_3 ap0_3_4 np0_3_4 cp0_3_4 ap0_4_5 np0_4_5 cp0_4_5 ap1_0_6 np1_0_6 cp1_0_6 ap1_1_7 np1_1_7 cp1_1_7 ap1_2_8 np1_2_8 cp1_2_8 ap1_3_9 np1_3_9 cp1_3_9 ap1_4_10 np1_4_10 cp1_4_10 h R) : CallsH PP fn_laws_eqBank [.agg ⟨[.slice ap0_0_1 np0_0_1 cp0_0_1, .slice ap0_1_2 np0_1_2 cp0_1_2, .slice ap0_2_3 np0_2_3 cp0_2_3, .slice ap0_3_4 np0_3_4 cp0_3_4, .slice ap0_4_5 np0_4_5 cp0_4_5]⟩, .agg ⟨[.slice ap1_0_6 np1_0_6 cp1_0_6, .slice ap1_1_7 np1_1_7 cp1_1_7, .slice ap1_2_8 np1_2_8 cp1_2_8, .slice ap1_3_9 np1_3_9 cp1_3_9, .slice ap1_4_10 np1_4_10 cp1_4_10]⟩] h R :=
  callsH_of X0ok Try.func14 (by kernel_rfl) plan_laws_eqBank [.agg [.sl ap0_0_1 np0_0_1 cp0_0_1, .sl ap0_1_2 np0_1_2 cp0_1_2, .sl ap0_2_3 np0_2_3 cp0_2_3, .sl ap0_3_4 np0_3_4 cp0_3_4, .sl ap0_4_5 np0_4_5 cp0_4_5], .agg [.sl ap1_0_6 np1_0_6 cp1_0_6, .sl ap1_1_7 np1_1_7 cp1_1_7, .sl ap1_2_8 np1_2_8 cp1_2_8, .sl ap1_3_9 np1_3_9 cp1_3_9, .sl ap1_4_10 np1_4_10 cp1_4_10]] (Eq.mpr (congrFun (congrFun (congrFun (congrFun (congrFun (congrFun (congrFun (congrFun (congrFun (congrFun (congrFun (congrFun (congrFun (congrFun (congrFun (congrFun (congrFun (congrFun (congrFun (congrFun (congrFun (congrFun (congrFun (congrFun (congrFun (congrFun (congrFun (congrFun (congrFun (congrFun (congrFun (congrFun tie_laws_eqBank ap0_0_1) np0_0_1) cp0_0_1) ap0_1_2) np0_1_2) cp0_1_2) ap0_2_3) np0_2_3) cp0_2_3) ap0_3_4) np0_3_4) cp0_3_4) ap0_4_5) np0_4_5) cp0_4_5) ap1_0_6) np1_0_6) cp1_0_6) ap1_1_7) np1_1_7) cp1_1_7) ap1_2_8) np1_2_8) cp1_2_8) ap1_3_9) np1_3_9) cp1_3_9) ap1_4_10) np1_4_10) cp1_4_10) h) R) hm)
/- 20: laws.markBank -/
def M_laws_markBank (ap0_0_1 : Option Addr) (np0_0_1 cp0_0_1 : Nat) (ap0_1_2 : Option Addr) (np0_1_2 cp0_1_2 : Nat) (ap0_2_3 : Option Addr) (np0_2_3 cp0_2_3 : Nat) (ap0_3_4 : Option Addr) (np0_3_4 cp0_3_4 : Nat) (ap0_4_5 : Option Addr) (np0_4_5 cp0_4_5 : Nat) (xp1_6 : Int) (h : Heap) (R : Value → Heap → Prop) : Prop :=
  ∀ h7 : Heap, h7 = newRowH h ty_impl_Bank [.slice ap0_0_1 np0_0_1 cp0_0_1, .slice ap0_1_2 np0_1_2 cp0_1_2, .slice ap0_2_3 np0_2_3 cp0_2_3, .slice ap0_3_4 np0_3_4 cp0_3_4, .slice ap0_4_5 np0_4_5 cp0_4_5] →
  ∃ (a6_8 : Option Addr) (n6_8 c6_8 : Nat), cellAt h7 h.size 0 = some (.slice a6_8 n6_8 c6_8) ∧
  CallsH PP fn_laws_markIntS [.slice a6_8 n6_8 c6_8, .int .i64 xp1_6] h7 fun (v9 : Value) (h9 : Heap) =>
  ∃ (x8_10 : Int), v9 = .int .i64 x8_10 ∧
  ∃ (a10_11 : Option Addr) (n10_11 c10_11 : Nat), cellAt h9 h.size 1 = some (.slice a10_11 n10_11 c10_11) ∧
  CallsH PP fn_laws_markIntSS [.slice a10_11 n10_11 c10_11, .int .i64 x8_10] h9 fun (v12 : Value) (h12 : Heap) =>
  ∃ (x12_13 : Int), v12 = .int .i64 x12_13 ∧
  ∃ (a14_14 : Option Addr) (n14_14 c14_14 : Nat), cellAt h12 h.size 2 = some (.slice a14_14 n14_14 c14_14) ∧
  CallsH PP fn_laws_markIntS [.slice a14_14 n14_14 c14_14, .int .i64 x12_13] h12 fun (v15 : Value) (h15 : Heap) =>
  ∃ (x16_16 : Int), v15 = .int .i64 x16_16 ∧
  ∃ (a18_17 : Option Addr) (n18_17 c18_17 : Nat), cellAt h15 h.size 3 = some (.slice a18_17 n18_17 c18_17) ∧
  CallsH PP fn_laws_markBoolSS [.slice a18_17 n18_17 c18_17, .int .i64 x16_16] h15 fun (v18 : Value) (h18 : Heap) =>
  ∃ (x20_19 : Int), v18 = .int .i64 x20_19 ∧
  ∃ (a22_20 : Option Addr) (n22_20 c22_20 : Nat), cellAt h18 h.size 4 = some (.slice a22_20 n22_20 c22_20) ∧
  CallsH PP fn_laws_markIntSS [.slice a22_20 n22_20 c22_20, .int .i64 x20_19] h18 fun (v21 : Value) (h21 : Heap) =>
  ∃ (x24_22 : Int), v21 = .int .i64 x24_22 ∧
  R (.int .i64 x24_22) h21
def plan_laws_markBank : Plan := .seq none (.leaf) (.seq none (.leaf) (.seq none (.leaf) (.seq none (.leaf) (.seq none (.leaf) (.seq none (.leaf) (.seq none (.leaf) (.leaf)))))))
theorem tie_laws_markBank : (fun (ap0_0_1 : Option Addr) (np0_0_1 cp0_0_1 : Nat) (ap0_1_2 : Option Addr) (np0_1_2 cp0_1_2 : Nat) (ap0_2_3 : Option Addr) (np0_2_3 cp0_2_3 : Nat) (ap0_3_4 : Option Addr) (np0_3_4 cp0_3_4 : Nat) (ap0_4_5 : Option Addr) (np0_4_5 cp0_4_5 : Nat) (xp1_6 : Int) (h : Heap) (R : Value → Heap → Prop) => denF X0 Try.f20 (bodyOf Try.f20) plan_laws_markBank [.agg [.sl ap0_0_1 np0_0_1 cp0_0_1, .sl ap0_1_2 np0_1_2 cp0_1_2, .sl ap0_2_3 np0_2_3 cp0_2_3, .sl ap0_3_4 np0_3_4 cp0_3_4, .sl ap0_4_5 np0_4_5 cp0_4_5], .l (.int .i64 xp1_6)] h R) = M_laws_markBank := by kernel_rfl
theorem calls_laws_markBank (ap0_0_1 : Option Addr) (np0_0_1 cp0_0_1 : Nat) (ap0_1_2 : Option Addr) (np0_1_2 cp0_1_2 : Nat) (ap0_2_3 : Option Addr) (np0_2_3 cp0_2_3 : Nat) (ap0_3_4 : Option Addr) (np0_3_4 cp0_3_4 : Nat) (ap0_4_5 : Option Addr) (np0_4_5 cp0_4_5 : Nat) (xp1_6 : Int) {h : Heap} {R : Value → Heap → Prop} (hm : M_laws_markBank ap0_0_1 np0_0_1 cp0_0_1 ap0_1_2 np0_1_2 cp0_1_2 ap0_2_3 np0_2_3 cp0_2_3 ap0_3_4 np0_3_4 cp0_3_4 ap0_4_5 np0_4_5 cp0_4_5 xp1_6 h R) : CallsH PP fn_laws_markBank [.agg ⟨[.slice ap0_0_1 np0_0_1 cp0_0_1, .slice ap0_1_2 np0_1_2 cp0_1_2, .slice ap0_2_3 np0_2_3 cp0_2_3, .slice ap0_3_4 np0_3_4 cp0_3_4, .slice ap0_4_5 np0_4_5 cp0_4_5]⟩, .int .i64 xp1_6] h R :=
  callsH_of X0ok Try.func20 (by kernel_rfl) plan_laws_markBank [.agg [.sl ap0_0_1 np0_0_1 cp0_0_1, .sl ap0_1_2 np0_1_2 cp0_1_2, .sl ap0_2_3 np0_2_3 cp0_2_3, .sl ap0_3_4 np0_3_4 cp0_3_4, .sl ap0_4_5 np0_4_5 cp0_4_5], .l (.int .i64 xp1_6)] (Eq.mpr (congrFun (congrFun (congrFun (congrFun (congrFun (congrFun (congrFun (congrFun (congrFun (congrFun (congrFun (congrFun (congrFun (congrFun (congrFun (congrFun (congrFun (congrFun tie_laws_markBank ap0_0_1) np0_0_1) cp0_0_1) ap0_1_2) np0_1_2) cp0_1_2) ap0_2_3) np0_2_3) cp0_2_3) ap0_3_4) np0_3_4) cp0_3_4) ap0_4_5) np0_4_5) cp0_4_5) xp1_6) h) R) hm)
/- 22: laws.heldBank -/
def M_laws_heldBank (ap0_0_1 : Option Addr) (np0_0_1 cp0_0_1 : Nat) (ap0_1_2 : Option Addr) (np0_1_2 cp0_1_2 : Nat) (ap0_2_3 : Option Addr) (np0_2_3 cp0_2_3 : Nat) (ap0_3_4 : Option Addr) (np0_3_4 cp0_3_4 : Nat) (ap0_4_5 : Option Addr) (np0_4_5 cp0_4_5 : Nat) (xp1_6 : Int) (h : Heap) (R : Value → Heap → Prop) : Prop :=
  ∀ h7 : Heap, h7 = newRowH h ty_impl_Bank [.slice ap0_0_1 np0_0_1 cp0_0_1, .slice ap0_1_2 np0_1_2 cp0_1_2, .slice ap0_2_3 np0_2_3 cp0_2_3, .slice ap0_3_4 np0_3_4 cp0_3_4, .slice ap0_4_5 np0_4_5 cp0_4_5] →
  ∃ (a6_8 : Option Addr) (n6_8 c6_8 : Nat), cellAt h7 h.size 0 = some (.slice a6_8 n6_8 c6_8) ∧
  CallsH PP fn_laws_heldIntS [.slice a6_8 n6_8 c6_8, .int .i64 xp1_6] h7 fun (v9 : Value) (h9 : Heap) =>
  ∃ (x8_10 : Int), v9 = .int .i64 x8_10 ∧
  (((decide ((x8_10 : Int) < 0)) = true →
    R (.int .i64 (-1)) h9) ∧
  ((decide ((x8_10 : Int) < 0)) = false →
    ∃ (a12_11 : Option Addr) (n12_11 c12_11 : Nat), cellAt h9 h.size 1 = some (.slice a12_11 n12_11 c12_11) ∧
    CallsH PP fn_laws_heldIntSS [.slice a12_11 n12_11 c12_11, .int .i64 x8_10] h9 fun (v12 : Value) (h12 : Heap) =>
    ∃ (x14_13 : Int), v12 = .int .i64 x14_13 ∧
    (((decide ((x14_13 : Int) < 0)) = true →
      R (.int .i64 (-1)) h12) ∧
    ((decide ((x14_13 : Int) < 0)) = false →
      ∃ (a18_14 : Option Addr) (n18_14 c18_14 : Nat), cellAt h12 h.size 2 = some (.slice a18_14 n18_14 c18_14) ∧
      CallsH PP fn_laws_heldIntS [.slice a18_14 n18_14 c18_14, .int .i64 x14_13] h12 fun (v15 : Value) (h15 : Heap) =>
      ∃ (x20_16 : Int), v15 = .int .i64 x20_16 ∧
      (((decide ((x20_16 : Int) < 0)) = true →
        R (.int .i64 (-1)) h15) ∧
      ((decide ((x20_16 : Int) < 0)) = false →
        ∃ (a24_17 : Option Addr) (n24_17 c24_17 : Nat), cellAt h15 h.size 3 = some (.slice a24_17 n24_17 c24_17) ∧
        CallsH PP fn_laws_heldBoolSS [.slice a24_17 n24_17 c24_17, .int .i64 x20_16] h15 fun (v18 : Value) (h18 : Heap) =>
        ∃ (x26_19 : Int), v18 = .int .i64 x26_19 ∧
        (((decide ((x26_19 : Int) < 0)) = true →
          R (.int .i64 (-1)) h18) ∧
        ((decide ((x26_19 : Int) < 0)) = false →
          ∃ (a30_20 : Option Addr) (n30_20 c30_20 : Nat), cellAt h18 h.size 4 = some (.slice a30_20 n30_20 c30_20) ∧
          CallsH PP fn_laws_heldIntSS [.slice a30_20 n30_20 c30_20, .int .i64 x26_19] h18 fun (v21 : Value) (h21 : Heap) =>
          ∃ (x32_22 : Int), v21 = .int .i64 x32_22 ∧
          (((decide ((x32_22 : Int) < 0)) = true →
            R (.int .i64 (-1)) h21) ∧
          ((decide ((x32_22 : Int) < 0)) = false →
            R (.int .i64 x32_22) h21))))))))))
def plan_laws_heldBank : Plan := .seq none (.leaf) (.seq none (.leaf) (.seq none (.seq none (.leaf) (.cond (.seq none (.leaf) (.leaf)) (.leaf))) (.seq none (.leaf) (.seq none (.seq none (.leaf) (.cond (.seq none (.leaf) (.leaf)) (.leaf))) (.seq none (.leaf) (.seq none (.seq none (.leaf) (.cond (.seq none (.leaf) (.leaf)) (.leaf))) (.seq none (.leaf) (.seq none (.seq none (.leaf) (.cond (.seq none (.leaf) (.leaf)) (.leaf))) (.seq none (.leaf) (.seq none (.seq none (.leaf) (.cond (.seq none (.leaf) (.leaf)) (.leaf))) (.seq none (.leaf) (.leaf))))))))))))
theorem tie_laws_heldBank : (fun (ap0_0_1 : Option Addr) (np0_0_1 cp0_0_1 : Nat) (ap0_1_2 : Option Addr) (np0_1_2 cp0_1_2 : Nat) (ap0_2_3 : Option Addr) (np0_2_3 cp0_2_3 : Nat) (ap0_3_4 : Option Addr) (np0_3_4 cp0_3_4 : Nat) (ap0_4_5 : Option Addr) (np0_4_5 cp0_4_5 : Nat) (xp1_6 : Int) (h : Heap) (R : Value → Heap → Prop) => denF X0 Try.f22 (bodyOf Try.f22) plan_laws_heldBank [.agg [.sl ap0_0_1 np0_0_1 cp0_0_1, .sl ap0_1_2 np0_1_2 cp0_1_2, .sl ap0_2_3 np0_2_3 cp0_2_3, .sl ap0_3_4 np0_3_4 cp0_3_4, .sl ap0_4_5 np0_4_5 cp0_4_5], .l (.int .i64 xp1_6)] h R) = M_laws_heldBank := by kernel_rfl
theorem calls_laws_heldBank (ap0_0_1 : Option Addr) (np0_0_1 cp0_0_1 : Nat) (ap0_1_2 : Option Addr) (np0_1_2 cp0_1_2 : Nat) (ap0_2_3 : Option Addr) (np0_2_3 cp0_2_3 : Nat) (ap0_3_4 : Option Addr) (np0_3_4 cp0_3_4 : Nat) (ap0_4_5 : Option Addr) (np0_4_5 cp0_4_5 : Nat) (xp1_6 : Int) {h : Heap} {R : Value → Heap → Prop} (hm : M_laws_heldBank ap0_0_1 np0_0_1 cp0_0_1 ap0_1_2 np0_1_2 cp0_1_2 ap0_2_3 np0_2_3 cp0_2_3 ap0_3_4 np0_3_4 cp0_3_4 ap0_4_5 np0_4_5 cp0_4_5 xp1_6 h R) : CallsH PP fn_laws_heldBank [.agg ⟨[.slice ap0_0_1 np0_0_1 cp0_0_1, .slice ap0_1_2 np0_1_2 cp0_1_2, .slice ap0_2_3 np0_2_3 cp0_2_3, .slice ap0_3_4 np0_3_4 cp0_3_4, .slice ap0_4_5 np0_4_5 cp0_4_5]⟩, .int .i64 xp1_6] h R :=
  callsH_of X0ok Try.func22 (by kernel_rfl) plan_laws_heldBank [.agg [.sl ap0_0_1 np0_0_1 cp0_0_1, .sl ap0_1_2 np0_1_2 cp0_1_2, .sl ap0_2_3 np0_2_3 cp0_2_3, .sl ap0_3_4 np0_3_4 cp0_3_4, .sl ap0_4_5 np0_4_5 cp0_4_5], .l (.int .i64 xp1_6)] (Eq.mpr (congrFun (congrFun (congrFun (congrFun (congrFun (congrFun (congrFun (congrFun (congrFun (congrFun (congrFun (congrFun (congrFun (congrFun (congrFun (congrFun (congrFun (congrFun tie_laws_heldBank ap0_0_1) np0_0_1) cp0_0_1) ap0_1_2) np0_1_2) cp0_1_2) ap0_2_3) np0_2_3) cp0_2_3) ap0_3_4) np0_3_4) cp0_3_4) ap0_4_5) np0_4_5) cp0_4_5) xp1_6) h) R) hm)
end Go.Proofs.Ytjmhahjmbmiepaa.D
