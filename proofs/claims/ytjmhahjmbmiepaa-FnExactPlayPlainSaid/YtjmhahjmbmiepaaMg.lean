/- The M-code of functions: what their code comes to, read at the heap. PRINTED by gen.py. -/
import Derived.Test.YtjmhahjmbmiepaaTab
namespace Go.Proofs.Ytjmhahjmbmiepaa.D
open Go Go.Proofs
set_option linter.unusedVariables false
set_option linter.unusedSimpArgs false
set_option maxRecDepth 100000
/- 5: laws.FnExactPlayPlain -/
def M_laws_FnExactPlayPlain (ap0_1 : Option Addr) (np0_1 cp0_1 : Nat) (h : Heap) (R : Value → Heap → Prop) : Prop :=
  CallsH PP fn_laws_szHouseStepS [.slice ap0_1 np0_1 cp0_1, .int .i64 1048576] h fun (v2 : Value) (h2 : Heap) =>
  ∃ (x16_3 : Int), v2 = .int .i64 x16_3 ∧
  (((decide ((x16_3 : Int) < 0)) = true →
    R (.bool true) h2) ∧
  ((decide ((x16_3 : Int) < 0)) = false →
    CallsH PP fn_laws_toHouseStepS [.slice ap0_1 np0_1 cp0_1] h2 fun (v4 : Value) (h4 : Heap) =>
    ∃ (a21_5 : Option Addr) (n21_5 c21_5 : Nat), v4 = .slice a21_5 n21_5 c21_5 ∧
    CallsH PP fn_spec_PlayPlain [.slice a21_5 n21_5 c21_5] h4 fun (v6 : Value) (h6 : Heap) =>
    ∃ (a22_0_0_7 : Option Addr) (n22_0_0_7 c22_0_0_7 : Nat) (x22_0_1_8 : Int), ∃ (t22_1_9 : Bool), v6 = .tuple ⟨[.agg ⟨[.slice a22_0_0_7 n22_0_0_7 c22_0_0_7, .int .i64 x22_0_1_8]⟩, .bool t22_1_9]⟩ ∧
    ∀ h10 : Heap, h10 = newRowH h6 ty_impl_Head [.slice none 0 0, .int .i64 0] →
    ∃ (e11 : TypeId) (c11 : List Value), Row h10 h6.size e11 c11 ∧ 0 + 2 ≤ c11.length ∧
    ∀ h12 : Heap, h12 = putRow h10 h6.size e11 (splice c11 0 [.slice a22_0_0_7 n22_0_0_7 c22_0_0_7, .int .i64 x22_0_1_8]) →
    CallsH PP fn_laws_toHouseStepS [.slice ap0_1 np0_1 cp0_1] h12 fun (v13 : Value) (h13 : Heap) =>
    ∃ (a26_14 : Option Addr) (n26_14 c26_14 : Nat), v13 = .slice a26_14 n26_14 c26_14 ∧
    CallsH PP fn_impl_PlayPlain [.slice a26_14 n26_14 c26_14] h13 fun (v15 : Value) (h15 : Heap) =>
    ∃ (a29_0_0_16 : Option Addr) (n29_0_0_16 c29_0_0_16 : Nat) (x29_0_1_17 : Int), ∃ (t29_1_18 : Bool), v15 = .tuple ⟨[.agg ⟨[.slice a29_0_0_16 n29_0_0_16 c29_0_0_16, .int .i64 x29_0_1_17]⟩, .bool t29_1_18]⟩ ∧
    ∀ h19 : Heap, h19 = newRowH h15 ty_impl_Head [.slice none 0 0, .int .i64 0] →
    ∃ (e20 : TypeId) (c20 : List Value), Row h19 h15.size e20 c20 ∧ 0 + 2 ≤ c20.length ∧
    ∀ h21 : Heap, h21 = putRow h19 h15.size e20 (splice c20 0 [.slice a29_0_0_16 n29_0_0_16 c29_0_0_16, .int .i64 x29_0_1_17]) →
    ∃ (a32_0_22 : Option Addr) (n32_0_22 c32_0_22 : Nat), cellAt h21 h15.size 0 = some (.slice a32_0_22 n32_0_22 c32_0_22) ∧
    ∃ (x32_1_23 : Int), cellAt h21 h15.size 1 = some (.int .i64 x32_1_23) ∧
    ∃ (a33_0_24 : Option Addr) (n33_0_24 c33_0_24 : Nat), cellAt h21 h6.size 0 = some (.slice a33_0_24 n33_0_24 c33_0_24) ∧
    ∃ (x33_1_25 : Int), cellAt h21 h6.size 1 = some (.int .i64 x33_1_25) ∧
    CallsH PP fn_laws_eqHead [.agg ⟨[.slice a32_0_22 n32_0_22 c32_0_22, .int .i64 x32_1_23]⟩, .agg ⟨[.slice a33_0_24 n33_0_24 c33_0_24, .int .i64 x33_1_25]⟩] h21 fun (v26 : Value) (h26 : Heap) =>
    ∃ (t34_27 : Bool), v26 = .bool t34_27 ∧
    (((!t34_27) = false →
      (((!(t29_1_18 == t22_1_9)) = true →
        R (.bool false) h26) ∧
      ((!(t29_1_18 == t22_1_9)) = false →
        CallsH PP fn_laws_toHouseStepS [.slice ap0_1 np0_1 cp0_1] h26 fun (v28 : Value) (h28 : Heap) =>
        ∃ (a43_29 : Option Addr) (n43_29 c43_29 : Nat), v28 = .slice a43_29 n43_29 c43_29 ∧
        CallsH PP fn_laws_eqHouseStepS [.slice a26_14 n26_14 c26_14, .slice a43_29 n43_29 c43_29] h28 fun (v30 : Value) (h30 : Heap) =>
        ∃ (t44_31 : Bool), v30 = .bool t44_31 ∧
        (((!t44_31) = true →
          R (.bool false) h30) ∧
        ((!t44_31) = false →
          CallsH PP fn_laws_markHouseStepS [.slice a26_14 n26_14 c26_14, .int .i64 1] h30 fun (v32 : Value) (h32 : Heap) =>
          ∃ (x48_33 : Int), v32 = .int .i64 x48_33 ∧
          (((decide ((x48_33 : Int) < 0)) = false →
            ∃ (a52_0_34 : Option Addr) (n52_0_34 c52_0_34 : Nat), cellAt h32 h15.size 0 = some (.slice a52_0_34 n52_0_34 c52_0_34) ∧
            ∃ (x52_1_35 : Int), cellAt h32 h15.size 1 = some (.int .i64 x52_1_35) ∧
            ∃ (a53_0_36 : Option Addr) (n53_0_36 c53_0_36 : Nat), cellAt h32 h6.size 0 = some (.slice a53_0_36 n53_0_36 c53_0_36) ∧
            ∃ (x53_1_37 : Int), cellAt h32 h6.size 1 = some (.int .i64 x53_1_37) ∧
            CallsH PP fn_laws_eqHead [.agg ⟨[.slice a52_0_34 n52_0_34 c52_0_34, .int .i64 x52_1_35]⟩, .agg ⟨[.slice a53_0_36 n53_0_36 c53_0_36, .int .i64 x53_1_37]⟩] h32 fun (v38 : Value) (h38 : Heap) =>
            ∃ (t54_39 : Bool), v38 = .bool t54_39 ∧
            (((!t54_39) = false →
              (((!(t29_1_18 == t22_1_9)) = true →
                R (.bool false) h38) ∧
              ((!(t29_1_18 == t22_1_9)) = false →
                ∃ (a62_0_40 : Option Addr) (n62_0_40 c62_0_40 : Nat), cellAt h38 h15.size 0 = some (.slice a62_0_40 n62_0_40 c62_0_40) ∧
                ∃ (x62_1_41 : Int), cellAt h38 h15.size 1 = some (.int .i64 x62_1_41) ∧
                CallsH PP fn_laws_markHead [.agg ⟨[.slice a62_0_40 n62_0_40 c62_0_40, .int .i64 x62_1_41]⟩, .int .i64 1] h38 fun (v42 : Value) (h42 : Heap) =>
                ∃ (x64_43 : Int), v42 = .int .i64 x64_43 ∧
                ∃ (a65_0_44 : Option Addr) (n65_0_44 c65_0_44 : Nat), cellAt h42 h15.size 0 = some (.slice a65_0_44 n65_0_44 c65_0_44) ∧
                ∃ (x65_1_45 : Int), cellAt h42 h15.size 1 = some (.int .i64 x65_1_45) ∧
                CallsH PP fn_laws_heldHead [.agg ⟨[.slice a65_0_44 n65_0_44 c65_0_44, .int .i64 x65_1_45]⟩, .int .i64 1] h42 fun (v46 : Value) (h46 : Heap) =>
                ∃ (x67_47 : Int), v46 = .int .i64 x67_47 ∧
                (((decide ((x67_47 : Int) < 0)) = true →
                  R (.bool false) h46) ∧
                ((decide ((x67_47 : Int) < 0)) = false →
                  ((((x67_47 : Int) != x64_43) = true →
                    R (.bool false) h46) ∧
                  (((x67_47 : Int) != x64_43) = false →
                    CallsH PP fn_laws_toHouseStepS [.slice ap0_1 np0_1 cp0_1] h46 fun (v48 : Value) (h48 : Heap) =>
                    ∃ (a75_49 : Option Addr) (n75_49 c75_49 : Nat), v48 = .slice a75_49 n75_49 c75_49 ∧
                    CallsH PP fn_impl_PlayPlain [.slice a75_49 n75_49 c75_49] h48 fun (v50 : Value) (h50 : Heap) =>
                    ∃ (a76_0_0_51 : Option Addr) (n76_0_0_51 c76_0_0_51 : Nat) (x76_0_1_52 : Int), ∃ (t76_1_53 : Bool), v50 = .tuple ⟨[.agg ⟨[.slice a76_0_0_51 n76_0_0_51 c76_0_0_51, .int .i64 x76_0_1_52]⟩, .bool t76_1_53]⟩ ∧
                    ∀ h54 : Heap, h54 = newRowH h50 ty_impl_Head [.slice none 0 0, .int .i64 0] →
                    ∃ (e55 : TypeId) (c55 : List Value), Row h54 h50.size e55 c55 ∧ 0 + 2 ≤ c55.length ∧
                    ∀ h56 : Heap, h56 = putRow h54 h50.size e55 (splice c55 0 [.slice a76_0_0_51 n76_0_0_51 c76_0_0_51, .int .i64 x76_0_1_52]) →
                    ∃ (a79_0_57 : Option Addr) (n79_0_57 c79_0_57 : Nat), cellAt h56 h50.size 0 = some (.slice a79_0_57 n79_0_57 c79_0_57) ∧
                    ∃ (x79_1_58 : Int), cellAt h56 h50.size 1 = some (.int .i64 x79_1_58) ∧
                    ∃ (a80_0_59 : Option Addr) (n80_0_59 c80_0_59 : Nat), cellAt h56 h6.size 0 = some (.slice a80_0_59 n80_0_59 c80_0_59) ∧
                    ∃ (x80_1_60 : Int), cellAt h56 h6.size 1 = some (.int .i64 x80_1_60) ∧
                    CallsH PP fn_laws_eqHead [.agg ⟨[.slice a79_0_57 n79_0_57 c79_0_57, .int .i64 x79_1_58]⟩, .agg ⟨[.slice a80_0_59 n80_0_59 c80_0_59, .int .i64 x80_1_60]⟩] h56 fun (v61 : Value) (h61 : Heap) =>
                    ∃ (t81_62 : Bool), v61 = .bool t81_62 ∧
                    (((!t81_62) = false →
                      (((!(t76_1_53 == t22_1_9)) = true →
                        R (.bool false) h61) ∧
                      ((!(t76_1_53 == t22_1_9)) = false →
                        ∃ (a88_0_63 : Option Addr) (n88_0_63 c88_0_63 : Nat), cellAt h61 h15.size 0 = some (.slice a88_0_63 n88_0_63 c88_0_63) ∧
                        ∃ (x88_1_64 : Int), cellAt h61 h15.size 1 = some (.int .i64 x88_1_64) ∧
                        CallsH PP fn_laws_heldHead [.agg ⟨[.slice a88_0_63 n88_0_63 c88_0_63, .int .i64 x88_1_64]⟩, .int .i64 1] h61 fun (v65 : Value) (h65 : Heap) =>
                        ∃ (x90_66 : Int), v65 = .int .i64 x90_66 ∧
                        (((decide ((x90_66 : Int) < 0)) = true →
                          R (.bool false) h65) ∧
                        ((decide ((x90_66 : Int) < 0)) = false →
                          ((((x90_66 : Int) != x64_43) = true →
                            R (.bool false) h65) ∧
                          (((x90_66 : Int) != x64_43) = false →
                            R (.bool true) h65))))))) ∧
                    ((!t81_62) = true →
                      R (.bool false) h61))))))))) ∧
            ((!t54_39) = true →
              R (.bool false) h38))) ∧
          ((decide ((x48_33 : Int) < 0)) = true →
            R (.bool false) h32))))))) ∧
    ((!t34_27) = true →
      R (.bool false) h26))))
def plan_laws_FnExactPlayPlain : Plan := .seq none (.leaf) (.seq none (.leaf) (.seq none (.leaf) (.seq none (.seq none (.leaf) (.cond (.seq none (.leaf) (.leaf)) (.leaf))) (.seq none (.leaf) (.seq none (.leaf) (.seq none (.leaf) (.seq none (.seq none (.leaf) (.cond (.seq none (.leaf) (.leaf)) (.leaf))) (.seq none (.seq none (.leaf) (.cond (.seq none (.leaf) (.leaf)) (.leaf))) (.seq none (.leaf) (.seq none (.leaf) (.seq none (.seq none (.leaf) (.cond (.seq none (.leaf) (.leaf)) (.leaf))) (.seq none (.leaf) (.seq none (.leaf) (.seq none (.leaf) (.seq none (.leaf) (.seq none (.seq none (.leaf) (.cond (.seq none (.leaf) (.leaf)) (.leaf))) (.seq none (.seq none (.leaf) (.cond (.seq none (.leaf) (.leaf)) (.leaf))) (.seq none (.leaf) (.seq none (.seq none (.leaf) (.cond (.seq none (.leaf) (.leaf)) (.leaf))) (.seq none (.leaf) (.seq none (.leaf) (.seq none (.seq none (.leaf) (.cond (.seq none (.leaf) (.leaf)) (.leaf))) (.seq none (.seq none (.leaf) (.cond (.seq none (.leaf) (.leaf)) (.leaf))) (.seq none (.leaf) (.leaf)))))))))))))))))))))))))
theorem tie_laws_FnExactPlayPlain : (fun (ap0_1 : Option Addr) (np0_1 cp0_1 : Nat) (h : Heap) (R : Value → Heap → Prop) => denF X0 Try.f5 (bodyOf Try.f5) plan_laws_FnExactPlayPlain [.l (.sl ap0_1 np0_1 cp0_1)] h R) = M_laws_FnExactPlayPlain := by kernel_rfl
theorem calls_laws_FnExactPlayPlain (ap0_1 : Option Addr) (np0_1 cp0_1 : Nat) {h : Heap} {R : Value → Heap → Prop} (hm : M_laws_FnExactPlayPlain ap0_1 np0_1 cp0_1 h R) : CallsH PP fn_laws_FnExactPlayPlain [.slice ap0_1 np0_1 cp0_1] h R :=
  callsH_of X0ok Try.func5 (by kernel_rfl) plan_laws_FnExactPlayPlain [.l (.sl ap0_1 np0_1 cp0_1)] (Eq.mpr (congrFun (congrFun (congrFun (congrFun (congrFun tie_laws_FnExactPlayPlain ap0_1) np0_1) cp0_1) h) R) hm)
/- 32: laws.szHouseStepS -/
def M_laws_szHouseStepS (ap0_1 : Option Addr) (np0_1 cp0_1 : Nat) (xp1_2 : Int) (h : Heap) (R : Value → Heap → Prop) : Prop :=
  (((decide (((IntKind.i64.wrap (xp1_2 - ((np0_1 : Nat) : Int))) : Int) < 0)) = true →
    R (.int .i64 (-1)) h) ∧
  ((decide (((IntKind.i64.wrap (xp1_2 - ((np0_1 : Nat) : Int))) : Int) < 0)) = false →
    ∃ (I3 : List Value → Heap → Prop) (μ3 : List Value → Heap → Nat), I3 [.int .i64 (IntKind.i64.wrap (xp1_2 - ((np0_1 : Nat) : Int))), .int .i64 0] h ∧
    ∀ h3 : Heap, ∀ (x1_4 : Int), ∀ (x5_5 : Int), I3 [.int .i64 x1_4, .int .i64 x5_5] h3 →
      (((decide ((x5_5 : Int) < ((np0_1 : Nat) : Int))) = true →
        ∃ (b20_6 o20_6 : Nat), ap0_1 = some ⟨b20_6, o20_6, none⟩ ∧ (0 : Int) ≤ x5_5 ∧ (x5_5 : Int) < ((np0_1 : Nat) : Int) ∧
        ∃ (x21_0_7 : Int), cellAt h3 b20_6 (o20_6 + (x5_5.toNat * 5)) = some (.int .i64 x21_0_7) ∧
        ∃ (x21_1_8 : Int), cellAt h3 b20_6 (o20_6 + (x5_5.toNat * 5) + 1) = some (.int .i64 x21_1_8) ∧
        ∃ (s21_2_9 : ByteArray), cellAt h3 b20_6 (o20_6 + (x5_5.toNat * 5) + 2) = some (.string s21_2_9) ∧
        ∃ (x21_3_10 : Int), cellAt h3 b20_6 (o20_6 + (x5_5.toNat * 5) + 3) = some (.int .i64 x21_3_10) ∧
        ∃ (x21_4_11 : Int), cellAt h3 b20_6 (o20_6 + (x5_5.toNat * 5) + 4) = some (.int .i64 x21_4_11) ∧
        CallsH PP fn_laws_szHouseStep [.agg ⟨[.int .i64 x21_0_7, .int .i64 x21_1_8, .string s21_2_9, .int .i64 x21_3_10, .int .i64 x21_4_11]⟩, .int .i64 x1_4] h3 fun (v12 : Value) (h12 : Heap) =>
        ∃ (x23_13 : Int), v12 = .int .i64 x23_13 ∧
        (((decide ((x23_13 : Int) < 0)) = true →
          R (.int .i64 (-1)) h12) ∧
        ((decide ((x23_13 : Int) < 0)) = false →
          I3 [.int .i64 x23_13, .int .i64 (IntKind.i64.wrap (x5_5 + 1))] h12 ∧ μ3 [.int .i64 x23_13, .int .i64 (IntKind.i64.wrap (x5_5 + 1))] h12 < μ3 [.int .i64 x1_4, .int .i64 x5_5] h3))) ∧
      ((decide ((x5_5 : Int) < ((np0_1 : Nat) : Int))) = false →
        R (.int .i64 x1_4) h3))))
def plan_laws_szHouseStepS : Plan := .seq none (.leaf) (.seq none (.leaf) (.seq none (.seq none (.leaf) (.cond (.seq none (.leaf) (.leaf)) (.leaf))) (.seq none (.seq none (.leaf) (.block (.loop [(1, .l (.int .i64)), (5, .l (.int .i64))] (.seq none (.seq none (.leaf) (.cond (.leaf) (.leaf))) (.seq none (.block (.seq none (.leaf) (.seq none (.leaf) (.cond (.seq none (.leaf) (.leaf)) (.leaf))))) (.leaf)))))) (.seq none (.leaf) (.leaf)))))
theorem tie_laws_szHouseStepS : (fun (ap0_1 : Option Addr) (np0_1 cp0_1 : Nat) (xp1_2 : Int) (h : Heap) (R : Value → Heap → Prop) => denF X0 Try.f32 (bodyOf Try.f32) plan_laws_szHouseStepS [.l (.sl ap0_1 np0_1 cp0_1), .l (.int .i64 xp1_2)] h R) = M_laws_szHouseStepS := by kernel_rfl
theorem calls_laws_szHouseStepS (ap0_1 : Option Addr) (np0_1 cp0_1 : Nat) (xp1_2 : Int) {h : Heap} {R : Value → Heap → Prop} (hm : M_laws_szHouseStepS ap0_1 np0_1 cp0_1 xp1_2 h R) : CallsH PP fn_laws_szHouseStepS [.slice ap0_1 np0_1 cp0_1, .int .i64 xp1_2] h R :=
  callsH_of X0ok Try.func32 (by kernel_rfl) plan_laws_szHouseStepS [.l (.sl ap0_1 np0_1 cp0_1), .l (.int .i64 xp1_2)] (Eq.mpr (congrFun (congrFun (congrFun (congrFun (congrFun (congrFun tie_laws_szHouseStepS ap0_1) np0_1) cp0_1) xp1_2) h) R) hm)
/- 102: laws.szHouseStep -/
def M_laws_szHouseStep (xp0_0_1 : Int) (xp0_1_2 : Int) (sp0_2_3 : ByteArray) (xp0_3_4 : Int) (xp0_4_5 : Int) (xp1_6 : Int) (h : Heap) (R : Value → Heap → Prop) : Prop :=
  ∀ h7 : Heap, h7 = newRowH h ty_laws_HouseStep [.int .i64 xp0_0_1, .int .i64 xp0_1_2, .string sp0_2_3, .int .i64 xp0_3_4, .int .i64 xp0_4_5] →
  ∃ (s6_0_8 : ByteArray), cellAt h7 h.size 2 = some (.string s6_0_8) ∧
  ∃ (x6_1_9 : Int), cellAt h7 h.size 3 = some (.int .i64 x6_1_9) ∧
  ∃ (x6_2_10 : Int), cellAt h7 h.size 4 = some (.int .i64 x6_2_10) ∧
  CallsH PP fn_laws_szSay [.agg ⟨[.string s6_0_8, .int .i64 x6_1_9, .int .i64 x6_2_10]⟩, .int .i64 xp1_6] h7 fun (v11 : Value) (h11 : Heap) =>
  ∃ (x8_12 : Int), v11 = .int .i64 x8_12 ∧
  (((decide ((x8_12 : Int) < 0)) = true →
    R (.int .i64 (-1)) h11) ∧
  ((decide ((x8_12 : Int) < 0)) = false →
    R (.int .i64 x8_12) h11))
def plan_laws_szHouseStep : Plan := .seq none (.leaf) (.seq none (.leaf) (.seq none (.seq none (.leaf) (.cond (.seq none (.leaf) (.leaf)) (.leaf))) (.seq none (.leaf) (.leaf))))
theorem tie_laws_szHouseStep : (fun (xp0_0_1 : Int) (xp0_1_2 : Int) (sp0_2_3 : ByteArray) (xp0_3_4 : Int) (xp0_4_5 : Int) (xp1_6 : Int) (h : Heap) (R : Value → Heap → Prop) => denF X0 Try.f102 (bodyOf Try.f102) plan_laws_szHouseStep [.agg [.int .i64 xp0_0_1, .int .i64 xp0_1_2, .str sp0_2_3, .int .i64 xp0_3_4, .int .i64 xp0_4_5], .l (.int .i64 xp1_6)] h R) = M_laws_szHouseStep := by kernel_rfl
theorem calls_laws_szHouseStep (xp0_0_1 : Int) (xp0_1_2 : Int) (sp0_2_3 : ByteArray) (xp0_3_4 : Int) (xp0_4_5 : Int) (xp1_6 : Int) {h : Heap} {R : Value → Heap → Prop} (hm : M_laws_szHouseStep xp0_0_1 xp0_1_2 sp0_2_3 xp0_3_4 xp0_4_5 xp1_6 h R) : CallsH PP fn_laws_szHouseStep [.agg ⟨[.int .i64 xp0_0_1, .int .i64 xp0_1_2, .string sp0_2_3, .int .i64 xp0_3_4, .int .i64 xp0_4_5]⟩, .int .i64 xp1_6] h R :=
  callsH_of X0ok Try.func102 (by kernel_rfl) plan_laws_szHouseStep [.agg [.int .i64 xp0_0_1, .int .i64 xp0_1_2, .str sp0_2_3, .int .i64 xp0_3_4, .int .i64 xp0_4_5], .l (.int .i64 xp1_6)] (Eq.mpr (congrFun (congrFun (congrFun (congrFun (congrFun (congrFun (congrFun (congrFun tie_laws_szHouseStep xp0_0_1) xp0_1_2) sp0_2_3) xp0_3_4) xp0_4_5) xp1_6) h) R) hm)
/- 168: laws.szSay -/
def M_laws_szSay (sp0_0_1 : ByteArray) (xp0_1_2 : Int) (xp0_2_3 : Int) (xp1_4 : Int) (h : Heap) (R : Value → Heap → Prop) : Prop :=
  ∀ h5 : Heap, h5 = newRowH h ty_laws_Say [.string sp0_0_1, .int .i64 xp0_1_2, .int .i64 xp0_2_3] →
  ∃ (s7_6 : ByteArray), cellAt h5 h.size 0 = some (.string s7_6) ∧
  (((decide (((IntKind.i64.wrap (xp1_4 - ((s7_6.size : Nat) : Int))) : Int) < 0)) = true →
    R (.int .i64 (-1)) h5) ∧
  ((decide (((IntKind.i64.wrap (xp1_4 - ((s7_6.size : Nat) : Int))) : Int) < 0)) = false →
    R (.int .i64 (IntKind.i64.wrap (xp1_4 - ((s7_6.size : Nat) : Int)))) h5))
def plan_laws_szSay : Plan := .seq none (.leaf) (.seq none (.leaf) (.seq none (.seq none (.leaf) (.cond (.seq none (.leaf) (.leaf)) (.leaf))) (.seq none (.leaf) (.leaf))))
theorem tie_laws_szSay : (fun (sp0_0_1 : ByteArray) (xp0_1_2 : Int) (xp0_2_3 : Int) (xp1_4 : Int) (h : Heap) (R : Value → Heap → Prop) => denF X0 Try.f168 (bodyOf Try.f168) plan_laws_szSay [.agg [.str sp0_0_1, .int .i64 xp0_1_2, .int .i64 xp0_2_3], .l (.int .i64 xp1_4)] h R) = M_laws_szSay := by kernel_rfl
theorem calls_laws_szSay (sp0_0_1 : ByteArray) (xp0_1_2 : Int) (xp0_2_3 : Int) (xp1_4 : Int) {h : Heap} {R : Value → Heap → Prop} (hm : M_laws_szSay sp0_0_1 xp0_1_2 xp0_2_3 xp1_4 h R) : CallsH PP fn_laws_szSay [.agg ⟨[.string sp0_0_1, .int .i64 xp0_1_2, .int .i64 xp0_2_3]⟩, .int .i64 xp1_4] h R :=
  callsH_of X0ok Try.func168 (by kernel_rfl) plan_laws_szSay [.agg [.str sp0_0_1, .int .i64 xp0_1_2, .int .i64 xp0_2_3], .l (.int .i64 xp1_4)] (Eq.mpr (congrFun (congrFun (congrFun (congrFun (congrFun (congrFun tie_laws_szSay sp0_0_1) xp0_1_2) xp0_2_3) xp1_4) h) R) hm)
/- 34: laws.toHouseStepS -/
def M_laws_toHouseStepS (ap0_1 : Option Addr) (np0_1 cp0_1 : Nat) (h : Heap) (R : Value → Heap → Prop) : Prop :=
  0 ≤ ((np0_1 : Nat) : Int) ∧ ((np0_1 : Nat) : Int) ≤ ((np0_1 : Nat) : Int) ∧ ((np0_1 : Nat) : Int) ≤ 1099511627776 ∧ ((48 : Nat) : Int) * ((np0_1 : Nat) : Int) ≤ 281474976710656 ∧
  ∀ h2 : Heap, h2 = newRowH h ty_impl_HouseStep (repl [.int .i64 0, .int .i64 0, .string ByteArray.empty, .int .i64 0, .int .i64 0] np0_1) →
  ∃ (I3 : List Value → Heap → Prop) (μ3 : List Value → Heap → Nat), I3 [.int .i64 0] h2 ∧
  ∀ h3 : Heap, ∀ (x4_4 : Int), I3 [.int .i64 x4_4] h3 →
    (((decide ((x4_4 : Int) < ((np0_1 : Nat) : Int))) = true →
      ∃ (b18_5 o18_5 : Nat), ap0_1 = some ⟨b18_5, o18_5, none⟩ ∧ (0 : Int) ≤ x4_4 ∧ (x4_4 : Int) < ((np0_1 : Nat) : Int) ∧
      ∃ (x19_0_6 : Int), cellAt h3 b18_5 (o18_5 + (x4_4.toNat * 5)) = some (.int .i64 x19_0_6) ∧
      ∃ (x19_1_7 : Int), cellAt h3 b18_5 (o18_5 + (x4_4.toNat * 5) + 1) = some (.int .i64 x19_1_7) ∧
      ∃ (s19_2_8 : ByteArray), cellAt h3 b18_5 (o18_5 + (x4_4.toNat * 5) + 2) = some (.string s19_2_8) ∧
      ∃ (x19_3_9 : Int), cellAt h3 b18_5 (o18_5 + (x4_4.toNat * 5) + 3) = some (.int .i64 x19_3_9) ∧
      ∃ (x19_4_10 : Int), cellAt h3 b18_5 (o18_5 + (x4_4.toNat * 5) + 4) = some (.int .i64 x19_4_10) ∧
      CallsH PP fn_laws_toHouseStep [.agg ⟨[.int .i64 x19_0_6, .int .i64 x19_1_7, .string s19_2_8, .int .i64 x19_3_9, .int .i64 x19_4_10]⟩] h3 fun (v11 : Value) (h11 : Heap) =>
      ∃ (x20_0_12 : Int) (x20_1_13 : Int) (s20_2_14 : ByteArray) (x20_3_15 : Int) (x20_4_16 : Int), v11 = .agg ⟨[.int .i64 x20_0_12, .int .i64 x20_1_13, .string s20_2_14, .int .i64 x20_3_15, .int .i64 x20_4_16]⟩ ∧
      (0 : Int) ≤ x4_4 ∧ (x4_4 : Int) < ((np0_1 : Nat) : Int) ∧
      ∃ (e17 : TypeId) (c17 : List Value), Row h11 h.size e17 c17 ∧ 0 + (x4_4.toNat * 5) + 5 ≤ c17.length ∧
      ∀ h18 : Heap, h18 = putRow h11 h.size e17 (splice c17 (0 + (x4_4.toNat * 5)) [.int .i64 x20_0_12, .int .i64 x20_1_13, .string s20_2_14, .int .i64 x20_3_15, .int .i64 x20_4_16]) →
      I3 [.int .i64 (IntKind.i64.wrap (x4_4 + 1))] h18 ∧ μ3 [.int .i64 (IntKind.i64.wrap (x4_4 + 1))] h18 < μ3 [.int .i64 x4_4] h3) ∧
    ((decide ((x4_4 : Int) < ((np0_1 : Nat) : Int))) = false →
      R (.slice (some ⟨h.size, 0, none⟩) np0_1 np0_1) h3))
def plan_laws_toHouseStepS : Plan := .seq none (.leaf) (.seq none (.leaf) (.seq none (.seq none (.leaf) (.block (.loop [(4, .l (.int .i64))] (.seq none (.seq none (.leaf) (.cond (.leaf) (.leaf))) (.seq none (.block (.leaf)) (.leaf)))))) (.seq none (.leaf) (.leaf))))
theorem tie_laws_toHouseStepS : (fun (ap0_1 : Option Addr) (np0_1 cp0_1 : Nat) (h : Heap) (R : Value → Heap → Prop) => denF X0 Try.f34 (bodyOf Try.f34) plan_laws_toHouseStepS [.l (.sl ap0_1 np0_1 cp0_1)] h R) = M_laws_toHouseStepS := by kernel_rfl
theorem calls_laws_toHouseStepS (ap0_1 : Option Addr) (np0_1 cp0_1 : Nat) {h : Heap} {R : Value → Heap → Prop} (hm : M_laws_toHouseStepS ap0_1 np0_1 cp0_1 h R) : CallsH PP fn_laws_toHouseStepS [.slice ap0_1 np0_1 cp0_1] h R :=
  callsH_of X0ok Try.func34 (by kernel_rfl) plan_laws_toHouseStepS [.l (.sl ap0_1 np0_1 cp0_1)] (Eq.mpr (congrFun (congrFun (congrFun (congrFun (congrFun tie_laws_toHouseStepS ap0_1) np0_1) cp0_1) h) R) hm)
/- 106: laws.toHouseStep -/
def M_laws_toHouseStep (xp0_0_1 : Int) (xp0_1_2 : Int) (sp0_2_3 : ByteArray) (xp0_3_4 : Int) (xp0_4_5 : Int) (h : Heap) (R : Value → Heap → Prop) : Prop :=
  ∀ h6 : Heap, h6 = newRowH h ty_laws_HouseStep [.int .i64 xp0_0_1, .int .i64 xp0_1_2, .string sp0_2_3, .int .i64 xp0_3_4, .int .i64 xp0_4_5] →
  ∀ h7 : Heap, h7 = newRowH h6 ty_impl_HouseStep [.int .i64 0, .int .i64 0, .string ByteArray.empty, .int .i64 0, .int .i64 0] →
  ∀ h8 : Heap, h8 = newRowH h7 ty_impl_HouseStep [.int .i64 0, .int .i64 0, .string ByteArray.empty, .int .i64 0, .int .i64 0] →
  ∃ (x5_9 : Int), cellAt h8 h.size 0 = some (.int .i64 x5_9) ∧
  ∃ (e10 : TypeId) (c10 : List Value), Row h8 h7.size e10 c10 ∧ 0 < c10.length ∧
  ∀ h11 : Heap, h11 = putRow h8 h7.size e10 (c10.set 0 (.int .i64 x5_9)) →
  ∃ (x8_12 : Int), cellAt h11 h.size 1 = some (.int .i64 x8_12) ∧
  ∃ (e13 : TypeId) (c13 : List Value), Row h11 h7.size e13 c13 ∧ 1 < c13.length ∧
  ∀ h14 : Heap, h14 = putRow h11 h7.size e13 (c13.set 1 (.int .i64 x8_12)) →
  ∃ (s11_0_15 : ByteArray), cellAt h14 h.size 2 = some (.string s11_0_15) ∧
  ∃ (x11_1_16 : Int), cellAt h14 h.size 3 = some (.int .i64 x11_1_16) ∧
  ∃ (x11_2_17 : Int), cellAt h14 h.size 4 = some (.int .i64 x11_2_17) ∧
  CallsH PP fn_laws_toSay [.agg ⟨[.string s11_0_15, .int .i64 x11_1_16, .int .i64 x11_2_17]⟩] h14 fun (v18 : Value) (h18 : Heap) =>
  ∃ (s12_0_19 : ByteArray) (x12_1_20 : Int) (x12_2_21 : Int), v18 = .agg ⟨[.string s12_0_19, .int .i64 x12_1_20, .int .i64 x12_2_21]⟩ ∧
  ∃ (e22 : TypeId) (c22 : List Value), Row h18 h7.size e22 c22 ∧ 2 + 3 ≤ c22.length ∧
  ∀ h23 : Heap, h23 = putRow h18 h7.size e22 (splice c22 2 [.string s12_0_19, .int .i64 x12_1_20, .int .i64 x12_2_21]) →
  ∃ (x14_0_24 : Int), cellAt h23 h7.size 0 = some (.int .i64 x14_0_24) ∧
  ∃ (x14_1_25 : Int), cellAt h23 h7.size 1 = some (.int .i64 x14_1_25) ∧
  ∃ (s14_2_26 : ByteArray), cellAt h23 h7.size 2 = some (.string s14_2_26) ∧
  ∃ (x14_3_27 : Int), cellAt h23 h7.size 3 = some (.int .i64 x14_3_27) ∧
  ∃ (x14_4_28 : Int), cellAt h23 h7.size 4 = some (.int .i64 x14_4_28) ∧
  ∃ (e29 : TypeId) (c29 : List Value), Row h23 h6.size e29 c29 ∧ 0 + 5 ≤ c29.length ∧
  ∀ h30 : Heap, h30 = putRow h23 h6.size e29 (splice c29 0 [.int .i64 x14_0_24, .int .i64 x14_1_25, .string s14_2_26, .int .i64 x14_3_27, .int .i64 x14_4_28]) →
  ∃ (xr0_0_31 : Int), cellAt h30 h6.size 0 = some (.int .i64 xr0_0_31) ∧
  ∃ (xr0_1_32 : Int), cellAt h30 h6.size 1 = some (.int .i64 xr0_1_32) ∧
  ∃ (sr0_2_33 : ByteArray), cellAt h30 h6.size 2 = some (.string sr0_2_33) ∧
  ∃ (xr0_3_34 : Int), cellAt h30 h6.size 3 = some (.int .i64 xr0_3_34) ∧
  ∃ (xr0_4_35 : Int), cellAt h30 h6.size 4 = some (.int .i64 xr0_4_35) ∧
  R (.agg ⟨[.int .i64 xr0_0_31, .int .i64 xr0_1_32, .string sr0_2_33, .int .i64 xr0_3_34, .int .i64 xr0_4_35]⟩) h30
def plan_laws_toHouseStep : Plan := .seq none (.leaf) (.seq none (.leaf) (.seq none (.leaf) (.seq none (.leaf) (.seq none (.leaf) (.seq none (.leaf) (.leaf))))))
theorem tie_laws_toHouseStep : (fun (xp0_0_1 : Int) (xp0_1_2 : Int) (sp0_2_3 : ByteArray) (xp0_3_4 : Int) (xp0_4_5 : Int) (h : Heap) (R : Value → Heap → Prop) => denF X0 Try.f106 (bodyOf Try.f106) plan_laws_toHouseStep [.agg [.int .i64 xp0_0_1, .int .i64 xp0_1_2, .str sp0_2_3, .int .i64 xp0_3_4, .int .i64 xp0_4_5]] h R) = M_laws_toHouseStep := by kernel_rfl
theorem calls_laws_toHouseStep (xp0_0_1 : Int) (xp0_1_2 : Int) (sp0_2_3 : ByteArray) (xp0_3_4 : Int) (xp0_4_5 : Int) {h : Heap} {R : Value → Heap → Prop} (hm : M_laws_toHouseStep xp0_0_1 xp0_1_2 sp0_2_3 xp0_3_4 xp0_4_5 h R) : CallsH PP fn_laws_toHouseStep [.agg ⟨[.int .i64 xp0_0_1, .int .i64 xp0_1_2, .string sp0_2_3, .int .i64 xp0_3_4, .int .i64 xp0_4_5]⟩] h R :=
  callsH_of X0ok Try.func106 (by kernel_rfl) plan_laws_toHouseStep [.agg [.int .i64 xp0_0_1, .int .i64 xp0_1_2, .str sp0_2_3, .int .i64 xp0_3_4, .int .i64 xp0_4_5]] (Eq.mpr (congrFun (congrFun (congrFun (congrFun (congrFun (congrFun (congrFun tie_laws_toHouseStep xp0_0_1) xp0_1_2) sp0_2_3) xp0_3_4) xp0_4_5) h) R) hm)
/- 171: laws.toSay -/
def M_laws_toSay (sp0_0_1 : ByteArray) (xp0_1_2 : Int) (xp0_2_3 : Int) (h : Heap) (R : Value → Heap → Prop) : Prop :=
  ∀ h4 : Heap, h4 = newRowH h ty_laws_Say [.string sp0_0_1, .int .i64 xp0_1_2, .int .i64 xp0_2_3] →
  ∀ h5 : Heap, h5 = newRowH h4 ty_impl_Say [.string ByteArray.empty, .int .i64 0, .int .i64 0] →
  ∀ h6 : Heap, h6 = newRowH h5 ty_impl_Say [.string ByteArray.empty, .int .i64 0, .int .i64 0] →
  ∃ (s5_7 : ByteArray), cellAt h6 h.size 0 = some (.string s5_7) ∧
  ∃ (e8 : TypeId) (c8 : List Value), Row h6 h5.size e8 c8 ∧ 0 < c8.length ∧
  ∀ h9 : Heap, h9 = putRow h6 h5.size e8 (c8.set 0 (.string s5_7)) →
  ∃ (x8_10 : Int), cellAt h9 h.size 1 = some (.int .i64 x8_10) ∧
  ∃ (e11 : TypeId) (c11 : List Value), Row h9 h5.size e11 c11 ∧ 1 < c11.length ∧
  ∀ h12 : Heap, h12 = putRow h9 h5.size e11 (c11.set 1 (.int .i64 x8_10)) →
  ∃ (x11_13 : Int), cellAt h12 h.size 2 = some (.int .i64 x11_13) ∧
  ∃ (e14 : TypeId) (c14 : List Value), Row h12 h5.size e14 c14 ∧ 2 < c14.length ∧
  ∀ h15 : Heap, h15 = putRow h12 h5.size e14 (c14.set 2 (.int .i64 x11_13)) →
  ∃ (s13_0_16 : ByteArray), cellAt h15 h5.size 0 = some (.string s13_0_16) ∧
  ∃ (x13_1_17 : Int), cellAt h15 h5.size 1 = some (.int .i64 x13_1_17) ∧
  ∃ (x13_2_18 : Int), cellAt h15 h5.size 2 = some (.int .i64 x13_2_18) ∧
  ∃ (e19 : TypeId) (c19 : List Value), Row h15 h4.size e19 c19 ∧ 0 + 3 ≤ c19.length ∧
  ∀ h20 : Heap, h20 = putRow h15 h4.size e19 (splice c19 0 [.string s13_0_16, .int .i64 x13_1_17, .int .i64 x13_2_18]) →
  ∃ (sr0_0_21 : ByteArray), cellAt h20 h4.size 0 = some (.string sr0_0_21) ∧
  ∃ (xr0_1_22 : Int), cellAt h20 h4.size 1 = some (.int .i64 xr0_1_22) ∧
  ∃ (xr0_2_23 : Int), cellAt h20 h4.size 2 = some (.int .i64 xr0_2_23) ∧
  R (.agg ⟨[.string sr0_0_21, .int .i64 xr0_1_22, .int .i64 xr0_2_23]⟩) h20
def plan_laws_toSay : Plan := .seq none (.leaf) (.seq none (.leaf) (.seq none (.leaf) (.seq none (.leaf) (.seq none (.leaf) (.seq none (.leaf) (.leaf))))))
theorem tie_laws_toSay : (fun (sp0_0_1 : ByteArray) (xp0_1_2 : Int) (xp0_2_3 : Int) (h : Heap) (R : Value → Heap → Prop) => denF X0 Try.f171 (bodyOf Try.f171) plan_laws_toSay [.agg [.str sp0_0_1, .int .i64 xp0_1_2, .int .i64 xp0_2_3]] h R) = M_laws_toSay := by kernel_rfl
theorem calls_laws_toSay (sp0_0_1 : ByteArray) (xp0_1_2 : Int) (xp0_2_3 : Int) {h : Heap} {R : Value → Heap → Prop} (hm : M_laws_toSay sp0_0_1 xp0_1_2 xp0_2_3 h R) : CallsH PP fn_laws_toSay [.agg ⟨[.string sp0_0_1, .int .i64 xp0_1_2, .int .i64 xp0_2_3]⟩] h R :=
  callsH_of X0ok Try.func171 (by kernel_rfl) plan_laws_toSay [.agg [.str sp0_0_1, .int .i64 xp0_1_2, .int .i64 xp0_2_3]] (Eq.mpr (congrFun (congrFun (congrFun (congrFun (congrFun tie_laws_toSay sp0_0_1) xp0_1_2) xp0_2_3) h) R) hm)
/- 36: laws.eqHead -/
def M_laws_eqHead (ap0_0_1 : Option Addr) (np0_0_1 cp0_0_1 : Nat) (xp0_1_2 : Int) (ap1_0_3 : Option Addr) (np1_0_3 cp1_0_3 : Nat) (xp1_1_4 : Int) (h : Heap) (R : Value → Heap → Prop) : Prop :=
  ∀ h5 : Heap, h5 = newRowH h ty_impl_Head [.slice ap0_0_1 np0_0_1 cp0_0_1, .int .i64 xp0_1_2] →
  ∀ h6 : Heap, h6 = newRowH h5 ty_impl_Head [.slice ap1_0_3 np1_0_3 cp1_0_3, .int .i64 xp1_1_4] →
  ∃ (a6_7 : Option Addr) (n6_7 c6_7 : Nat), cellAt h6 h.size 0 = some (.slice a6_7 n6_7 c6_7) ∧
  ∃ (a8_8 : Option Addr) (n8_8 c8_8 : Nat), cellAt h6 h5.size 0 = some (.slice a8_8 n8_8 c8_8) ∧
  CallsH PP fn_laws_eqRowS [.slice a6_7 n6_7 c6_7, .slice a8_8 n8_8 c8_8] h6 fun (v9 : Value) (h9 : Heap) =>
  ∃ (t9_10 : Bool), v9 = .bool t9_10 ∧
  (((!t9_10) = true →
    R (.bool false) h9) ∧
  ((!t9_10) = false →
    ∃ (x12_11 : Int), cellAt h9 h.size 1 = some (.int .i64 x12_11) ∧
    ∃ (x14_12 : Int), cellAt h9 h5.size 1 = some (.int .i64 x14_12) ∧
    ((((x12_11 : Int) != x14_12) = true →
      R (.bool false) h9) ∧
    (((x12_11 : Int) != x14_12) = false →
      R (.bool true) h9))))
def plan_laws_eqHead : Plan := .seq none (.leaf) (.seq none (.seq none (.leaf) (.cond (.seq none (.leaf) (.leaf)) (.leaf))) (.seq none (.seq none (.leaf) (.cond (.seq none (.leaf) (.leaf)) (.leaf))) (.seq none (.leaf) (.leaf))))
theorem tie_laws_eqHead : (fun (ap0_0_1 : Option Addr) (np0_0_1 cp0_0_1 : Nat) (xp0_1_2 : Int) (ap1_0_3 : Option Addr) (np1_0_3 cp1_0_3 : Nat) (xp1_1_4 : Int) (h : Heap) (R : Value → Heap → Prop) => denF X0 Try.f36 (bodyOf Try.f36) plan_laws_eqHead [.agg [.sl ap0_0_1 np0_0_1 cp0_0_1, .int .i64 xp0_1_2], .agg [.sl ap1_0_3 np1_0_3 cp1_0_3, .int .i64 xp1_1_4]] h R) = M_laws_eqHead := by kernel_rfl
theorem calls_laws_eqHead (ap0_0_1 : Option Addr) (np0_0_1 cp0_0_1 : Nat) (xp0_1_2 : Int) (ap1_0_3 : Option Addr) (np1_0_3 cp1_0_3 : Nat) (xp1_1_4 : Int) {h : Heap} {R : Value → Heap → Prop} (hm : M_laws_eqHead ap0_0_1 np0_0_1 cp0_0_1 xp0_1_2 ap1_0_3 np1_0_3 cp1_0_3 xp1_1_4 h R) : CallsH PP fn_laws_eqHead [.agg ⟨[.slice ap0_0_1 np0_0_1 cp0_0_1, .int .i64 xp0_1_2]⟩, .agg ⟨[.slice ap1_0_3 np1_0_3 cp1_0_3, .int .i64 xp1_1_4]⟩] h R :=
  callsH_of X0ok Try.func36 (by kernel_rfl) plan_laws_eqHead [.agg [.sl ap0_0_1 np0_0_1 cp0_0_1, .int .i64 xp0_1_2], .agg [.sl ap1_0_3 np1_0_3 cp1_0_3, .int .i64 xp1_1_4]] (Eq.mpr (congrFun (congrFun (congrFun (congrFun (congrFun (congrFun (congrFun (congrFun (congrFun (congrFun tie_laws_eqHead ap0_0_1) np0_0_1) cp0_0_1) xp0_1_2) ap1_0_3) np1_0_3) cp1_0_3) xp1_1_4) h) R) hm)
/- 109: laws.eqRowS -/
def M_laws_eqRowS (ap0_1 : Option Addr) (np0_1 cp0_1 : Nat) (ap1_2 : Option Addr) (np1_2 cp1_2 : Nat) (h : Heap) (R : Value → Heap → Prop) : Prop :=
  ((((((np0_1 : Nat) : Int) : Int) != ((np1_2 : Nat) : Int)) = true →
    R (.bool false) h) ∧
  (((((np0_1 : Nat) : Int) : Int) != ((np1_2 : Nat) : Int)) = false →
    ∃ (I3 : List Value → Heap → Prop) (μ3 : List Value → Heap → Nat), I3 [.int .i64 0] h ∧
    ∀ h3 : Heap, ∀ (x5_4 : Int), I3 [.int .i64 x5_4] h3 →
      (((decide ((x5_4 : Int) < ((np0_1 : Nat) : Int))) = true →
        ∃ (b19_5 o19_5 : Nat), ap0_1 = some ⟨b19_5, o19_5, none⟩ ∧ (0 : Int) ≤ x5_4 ∧ (x5_4 : Int) < ((np0_1 : Nat) : Int) ∧
        ∃ (s20_0_6 : ByteArray), cellAt h3 b19_5 (o19_5 + (x5_4.toNat * 2)) = some (.string s20_0_6) ∧
        ∃ (a20_1_7 : Option Addr) (n20_1_7 c20_1_7 : Nat), cellAt h3 b19_5 (o19_5 + (x5_4.toNat * 2) + 1) = some (.slice a20_1_7 n20_1_7 c20_1_7) ∧
        ∃ (b23_8 o23_8 : Nat), ap1_2 = some ⟨b23_8, o23_8, none⟩ ∧ (0 : Int) ≤ x5_4 ∧ (x5_4 : Int) < ((np1_2 : Nat) : Int) ∧
        ∃ (s24_0_9 : ByteArray), cellAt h3 b23_8 (o23_8 + (x5_4.toNat * 2)) = some (.string s24_0_9) ∧
        ∃ (a24_1_10 : Option Addr) (n24_1_10 c24_1_10 : Nat), cellAt h3 b23_8 (o23_8 + (x5_4.toNat * 2) + 1) = some (.slice a24_1_10 n24_1_10 c24_1_10) ∧
        CallsH PP fn_laws_eqRow [.agg ⟨[.string s20_0_6, .slice a20_1_7 n20_1_7 c20_1_7]⟩, .agg ⟨[.string s24_0_9, .slice a24_1_10 n24_1_10 c24_1_10]⟩] h3 fun (v11 : Value) (h11 : Heap) =>
        ∃ (t25_12 : Bool), v11 = .bool t25_12 ∧
        (((!t25_12) = true →
          R (.bool false) h11) ∧
        ((!t25_12) = false →
          I3 [.int .i64 (IntKind.i64.wrap (x5_4 + 1))] h11 ∧ μ3 [.int .i64 (IntKind.i64.wrap (x5_4 + 1))] h11 < μ3 [.int .i64 x5_4] h3))) ∧
      ((decide ((x5_4 : Int) < ((np0_1 : Nat) : Int))) = false →
        R (.bool true) h3))))
def plan_laws_eqRowS : Plan := .seq none (.leaf) (.seq none (.seq none (.leaf) (.cond (.seq none (.leaf) (.leaf)) (.leaf))) (.seq none (.seq none (.leaf) (.block (.loop [(5, .l (.int .i64))] (.seq none (.seq none (.leaf) (.cond (.leaf) (.leaf))) (.seq none (.block (.seq none (.draw (.op 0 (.op 1 (.op 2 (.op 3 (.op 4 (.op 5 (.op 6 (.op 7 (.op 8 (.op 9 .done))))))))))) (.cond (.seq none (.leaf) (.leaf)) (.leaf)))) (.leaf)))))) (.seq none (.leaf) (.leaf))))
theorem tie_laws_eqRowS : (fun (ap0_1 : Option Addr) (np0_1 cp0_1 : Nat) (ap1_2 : Option Addr) (np1_2 cp1_2 : Nat) (h : Heap) (R : Value → Heap → Prop) => denF X0 Try.f109 (bodyOf Try.f109) plan_laws_eqRowS [.l (.sl ap0_1 np0_1 cp0_1), .l (.sl ap1_2 np1_2 cp1_2)] h R) = M_laws_eqRowS := by kernel_rfl
theorem calls_laws_eqRowS (ap0_1 : Option Addr) (np0_1 cp0_1 : Nat) (ap1_2 : Option Addr) (np1_2 cp1_2 : Nat) {h : Heap} {R : Value → Heap → Prop} (hm : M_laws_eqRowS ap0_1 np0_1 cp0_1 ap1_2 np1_2 cp1_2 h R) : CallsH PP fn_laws_eqRowS [.slice ap0_1 np0_1 cp0_1, .slice ap1_2 np1_2 cp1_2] h R :=
  callsH_of X0ok Try.func109 (by kernel_rfl) plan_laws_eqRowS [.l (.sl ap0_1 np0_1 cp0_1), .l (.sl ap1_2 np1_2 cp1_2)] (Eq.mpr (congrFun (congrFun (congrFun (congrFun (congrFun (congrFun (congrFun (congrFun tie_laws_eqRowS ap0_1) np0_1) cp0_1) ap1_2) np1_2) cp1_2) h) R) hm)
/- 176: laws.eqRow -/
def M_laws_eqRow (sp0_0_1 : ByteArray) (ap0_1_2 : Option Addr) (np0_1_2 cp0_1_2 : Nat) (sp1_0_3 : ByteArray) (ap1_1_4 : Option Addr) (np1_1_4 cp1_1_4 : Nat) (h : Heap) (R : Value → Heap → Prop) : Prop :=
  ∀ h5 : Heap, h5 = newRowH h ty_impl_Row [.string sp0_0_1, .slice ap0_1_2 np0_1_2 cp0_1_2] →
  ∀ h6 : Heap, h6 = newRowH h5 ty_impl_Row [.string sp1_0_3, .slice ap1_1_4 np1_1_4 cp1_1_4] →
  ∃ (s6_7 : ByteArray), cellAt h6 h.size 0 = some (.string s6_7) ∧
  ∃ (s8_8 : ByteArray), cellAt h6 h5.size 0 = some (.string s8_8) ∧
  (((!((ByteArray.toList s6_7) == (ByteArray.toList s8_8))) = true →
    R (.bool false) h6) ∧
  ((!((ByteArray.toList s6_7) == (ByteArray.toList s8_8))) = false →
    ∃ (a11_9 : Option Addr) (n11_9 c11_9 : Nat), cellAt h6 h.size 1 = some (.slice a11_9 n11_9 c11_9) ∧
    ∃ (a13_10 : Option Addr) (n13_10 c13_10 : Nat), cellAt h6 h5.size 1 = some (.slice a13_10 n13_10 c13_10) ∧
    CallsH PP fn_laws_eqSampleS [.slice a11_9 n11_9 c11_9, .slice a13_10 n13_10 c13_10] h6 fun (v11 : Value) (h11 : Heap) =>
    ∃ (t14_12 : Bool), v11 = .bool t14_12 ∧
    (((!t14_12) = true →
      R (.bool false) h11) ∧
    ((!t14_12) = false →
      R (.bool true) h11))))
def plan_laws_eqRow : Plan := .seq none (.leaf) (.seq none (.seq none (.leaf) (.cond (.seq none (.leaf) (.leaf)) (.leaf))) (.seq none (.seq none (.leaf) (.cond (.seq none (.leaf) (.leaf)) (.leaf))) (.seq none (.leaf) (.leaf))))
theorem tie_laws_eqRow : (fun (sp0_0_1 : ByteArray) (ap0_1_2 : Option Addr) (np0_1_2 cp0_1_2 : Nat) (sp1_0_3 : ByteArray) (ap1_1_4 : Option Addr) (np1_1_4 cp1_1_4 : Nat) (h : Heap) (R : Value → Heap → Prop) => denF X0 Try.f176 (bodyOf Try.f176) plan_laws_eqRow [.agg [.str sp0_0_1, .sl ap0_1_2 np0_1_2 cp0_1_2], .agg [.str sp1_0_3, .sl ap1_1_4 np1_1_4 cp1_1_4]] h R) = M_laws_eqRow := by kernel_rfl
theorem calls_laws_eqRow (sp0_0_1 : ByteArray) (ap0_1_2 : Option Addr) (np0_1_2 cp0_1_2 : Nat) (sp1_0_3 : ByteArray) (ap1_1_4 : Option Addr) (np1_1_4 cp1_1_4 : Nat) {h : Heap} {R : Value → Heap → Prop} (hm : M_laws_eqRow sp0_0_1 ap0_1_2 np0_1_2 cp0_1_2 sp1_0_3 ap1_1_4 np1_1_4 cp1_1_4 h R) : CallsH PP fn_laws_eqRow [.agg ⟨[.string sp0_0_1, .slice ap0_1_2 np0_1_2 cp0_1_2]⟩, .agg ⟨[.string sp1_0_3, .slice ap1_1_4 np1_1_4 cp1_1_4]⟩] h R :=
  callsH_of X0ok Try.func176 (by kernel_rfl) plan_laws_eqRow [.agg [.str sp0_0_1, .sl ap0_1_2 np0_1_2 cp0_1_2], .agg [.str sp1_0_3, .sl ap1_1_4 np1_1_4 cp1_1_4]] (Eq.mpr (congrFun (congrFun (congrFun (congrFun (congrFun (congrFun (congrFun (congrFun (congrFun (congrFun tie_laws_eqRow sp0_0_1) ap0_1_2) np0_1_2) cp0_1_2) sp1_0_3) ap1_1_4) np1_1_4) cp1_1_4) h) R) hm)
/- 220: laws.eqSampleS -/
def M_laws_eqSampleS (ap0_1 : Option Addr) (np0_1 cp0_1 : Nat) (ap1_2 : Option Addr) (np1_2 cp1_2 : Nat) (h : Heap) (R : Value → Heap → Prop) : Prop :=
  ((((((np0_1 : Nat) : Int) : Int) != ((np1_2 : Nat) : Int)) = true →
    R (.bool false) h) ∧
  (((((np0_1 : Nat) : Int) : Int) != ((np1_2 : Nat) : Int)) = false →
    ∃ (I3 : List Value → Heap → Prop) (μ3 : List Value → Heap → Nat), I3 [.int .i64 0] h ∧
    ∀ h3 : Heap, ∀ (x5_4 : Int), I3 [.int .i64 x5_4] h3 →
      (((decide ((x5_4 : Int) < ((np0_1 : Nat) : Int))) = true →
        ∃ (b19_5 o19_5 : Nat), ap0_1 = some ⟨b19_5, o19_5, none⟩ ∧ (0 : Int) ≤ x5_4 ∧ (x5_4 : Int) < ((np0_1 : Nat) : Int) ∧
        ∃ (x20_0_6 : Int), cellAt h3 b19_5 (o19_5 + (x5_4.toNat * 2)) = some (.int .i64 x20_0_6) ∧
        ∃ (x20_1_7 : Int), cellAt h3 b19_5 (o19_5 + (x5_4.toNat * 2) + 1) = some (.int .i64 x20_1_7) ∧
        ∃ (b23_8 o23_8 : Nat), ap1_2 = some ⟨b23_8, o23_8, none⟩ ∧ (0 : Int) ≤ x5_4 ∧ (x5_4 : Int) < ((np1_2 : Nat) : Int) ∧
        ∃ (x24_0_9 : Int), cellAt h3 b23_8 (o23_8 + (x5_4.toNat * 2)) = some (.int .i64 x24_0_9) ∧
        ∃ (x24_1_10 : Int), cellAt h3 b23_8 (o23_8 + (x5_4.toNat * 2) + 1) = some (.int .i64 x24_1_10) ∧
        CallsH PP fn_laws_eqSample [.agg ⟨[.int .i64 x20_0_6, .int .i64 x20_1_7]⟩, .agg ⟨[.int .i64 x24_0_9, .int .i64 x24_1_10]⟩] h3 fun (v11 : Value) (h11 : Heap) =>
        ∃ (t25_12 : Bool), v11 = .bool t25_12 ∧
        (((!t25_12) = true →
          R (.bool false) h11) ∧
        ((!t25_12) = false →
          I3 [.int .i64 (IntKind.i64.wrap (x5_4 + 1))] h11 ∧ μ3 [.int .i64 (IntKind.i64.wrap (x5_4 + 1))] h11 < μ3 [.int .i64 x5_4] h3))) ∧
      ((decide ((x5_4 : Int) < ((np0_1 : Nat) : Int))) = false →
        R (.bool true) h3))))
def plan_laws_eqSampleS : Plan := .seq none (.leaf) (.seq none (.seq none (.leaf) (.cond (.seq none (.leaf) (.leaf)) (.leaf))) (.seq none (.seq none (.leaf) (.block (.loop [(5, .l (.int .i64))] (.seq none (.seq none (.leaf) (.cond (.leaf) (.leaf))) (.seq none (.block (.seq none (.draw (.op 0 (.op 1 (.op 2 (.op 3 (.op 4 (.op 5 (.op 6 (.op 7 (.op 8 (.op 9 .done))))))))))) (.cond (.seq none (.leaf) (.leaf)) (.leaf)))) (.leaf)))))) (.seq none (.leaf) (.leaf))))
theorem tie_laws_eqSampleS : (fun (ap0_1 : Option Addr) (np0_1 cp0_1 : Nat) (ap1_2 : Option Addr) (np1_2 cp1_2 : Nat) (h : Heap) (R : Value → Heap → Prop) => denF X0 Try.f220 (bodyOf Try.f220) plan_laws_eqSampleS [.l (.sl ap0_1 np0_1 cp0_1), .l (.sl ap1_2 np1_2 cp1_2)] h R) = M_laws_eqSampleS := by kernel_rfl
theorem calls_laws_eqSampleS (ap0_1 : Option Addr) (np0_1 cp0_1 : Nat) (ap1_2 : Option Addr) (np1_2 cp1_2 : Nat) {h : Heap} {R : Value → Heap → Prop} (hm : M_laws_eqSampleS ap0_1 np0_1 cp0_1 ap1_2 np1_2 cp1_2 h R) : CallsH PP fn_laws_eqSampleS [.slice ap0_1 np0_1 cp0_1, .slice ap1_2 np1_2 cp1_2] h R :=
  callsH_of X0ok Try.func220 (by kernel_rfl) plan_laws_eqSampleS [.l (.sl ap0_1 np0_1 cp0_1), .l (.sl ap1_2 np1_2 cp1_2)] (Eq.mpr (congrFun (congrFun (congrFun (congrFun (congrFun (congrFun (congrFun (congrFun tie_laws_eqSampleS ap0_1) np0_1) cp0_1) ap1_2) np1_2) cp1_2) h) R) hm)
/- 249: laws.eqSample -/
def M_laws_eqSample (xp0_0_1 : Int) (xp0_1_2 : Int) (xp1_0_3 : Int) (xp1_1_4 : Int) (h : Heap) (R : Value → Heap → Prop) : Prop :=
  ∀ h5 : Heap, h5 = newRowH h ty_impl_Sample [.int .i64 xp0_0_1, .int .i64 xp0_1_2] →
  ∀ h6 : Heap, h6 = newRowH h5 ty_impl_Sample [.int .i64 xp1_0_3, .int .i64 xp1_1_4] →
  ∃ (x6_7 : Int), cellAt h6 h.size 0 = some (.int .i64 x6_7) ∧
  ∃ (x8_8 : Int), cellAt h6 h5.size 0 = some (.int .i64 x8_8) ∧
  ((((x6_7 : Int) != x8_8) = true →
    R (.bool false) h6) ∧
  (((x6_7 : Int) != x8_8) = false →
    ∃ (x11_9 : Int), cellAt h6 h.size 1 = some (.int .i64 x11_9) ∧
    ∃ (x13_10 : Int), cellAt h6 h5.size 1 = some (.int .i64 x13_10) ∧
    ((((x11_9 : Int) != x13_10) = true →
      R (.bool false) h6) ∧
    (((x11_9 : Int) != x13_10) = false →
      R (.bool true) h6))))
def plan_laws_eqSample : Plan := .seq none (.leaf) (.seq none (.seq none (.leaf) (.cond (.seq none (.leaf) (.leaf)) (.leaf))) (.seq none (.seq none (.leaf) (.cond (.seq none (.leaf) (.leaf)) (.leaf))) (.seq none (.leaf) (.leaf))))
theorem tie_laws_eqSample : (fun (xp0_0_1 : Int) (xp0_1_2 : Int) (xp1_0_3 : Int) (xp1_1_4 : Int) (h : Heap) (R : Value → Heap → Prop) => denF X0 Try.f249 (bodyOf Try.f249) plan_laws_eqSample [.agg [.int .i64 xp0_0_1, .int .i64 xp0_1_2], .agg [.int .i64 xp1_0_3, .int .i64 xp1_1_4]] h R) = M_laws_eqSample := by kernel_rfl
theorem calls_laws_eqSample (xp0_0_1 : Int) (xp0_1_2 : Int) (xp1_0_3 : Int) (xp1_1_4 : Int) {h : Heap} {R : Value → Heap → Prop} (hm : M_laws_eqSample xp0_0_1 xp0_1_2 xp1_0_3 xp1_1_4 h R) : CallsH PP fn_laws_eqSample [.agg ⟨[.int .i64 xp0_0_1, .int .i64 xp0_1_2]⟩, .agg ⟨[.int .i64 xp1_0_3, .int .i64 xp1_1_4]⟩] h R :=
  callsH_of X0ok Try.func249 (by kernel_rfl) plan_laws_eqSample [.agg [.int .i64 xp0_0_1, .int .i64 xp0_1_2], .agg [.int .i64 xp1_0_3, .int .i64 xp1_1_4]] (Eq.mpr (congrFun (congrFun (congrFun (congrFun (congrFun (congrFun tie_laws_eqSample xp0_0_1) xp0_1_2) xp1_0_3) xp1_1_4) h) R) hm)
/- 37: laws.eqHouseStepS -/
def M_laws_eqHouseStepS (ap0_1 : Option Addr) (np0_1 cp0_1 : Nat) (ap1_2 : Option Addr) (np1_2 cp1_2 : Nat) (h : Heap) (R : Value → Heap → Prop) : Prop :=
  ((((((np0_1 : Nat) : Int) : Int) != ((np1_2 : Nat) : Int)) = true →
    R (.bool false) h) ∧
  (((((np0_1 : Nat) : Int) : Int) != ((np1_2 : Nat) : Int)) = false →
    ∃ (I3 : List Value → Heap → Prop) (μ3 : List Value → Heap → Nat), I3 [.int .i64 0] h ∧
    ∀ h3 : Heap, ∀ (x5_4 : Int), I3 [.int .i64 x5_4] h3 →
      (((decide ((x5_4 : Int) < ((np0_1 : Nat) : Int))) = true →
        ∃ (b19_5 o19_5 : Nat), ap0_1 = some ⟨b19_5, o19_5, none⟩ ∧ (0 : Int) ≤ x5_4 ∧ (x5_4 : Int) < ((np0_1 : Nat) : Int) ∧
        ∃ (x20_0_6 : Int), cellAt h3 b19_5 (o19_5 + (x5_4.toNat * 5)) = some (.int .i64 x20_0_6) ∧
        ∃ (x20_1_7 : Int), cellAt h3 b19_5 (o19_5 + (x5_4.toNat * 5) + 1) = some (.int .i64 x20_1_7) ∧
        ∃ (s20_2_8 : ByteArray), cellAt h3 b19_5 (o19_5 + (x5_4.toNat * 5) + 2) = some (.string s20_2_8) ∧
        ∃ (x20_3_9 : Int), cellAt h3 b19_5 (o19_5 + (x5_4.toNat * 5) + 3) = some (.int .i64 x20_3_9) ∧
        ∃ (x20_4_10 : Int), cellAt h3 b19_5 (o19_5 + (x5_4.toNat * 5) + 4) = some (.int .i64 x20_4_10) ∧
        ∃ (b23_11 o23_11 : Nat), ap1_2 = some ⟨b23_11, o23_11, none⟩ ∧ (0 : Int) ≤ x5_4 ∧ (x5_4 : Int) < ((np1_2 : Nat) : Int) ∧
        ∃ (x24_0_12 : Int), cellAt h3 b23_11 (o23_11 + (x5_4.toNat * 5)) = some (.int .i64 x24_0_12) ∧
        ∃ (x24_1_13 : Int), cellAt h3 b23_11 (o23_11 + (x5_4.toNat * 5) + 1) = some (.int .i64 x24_1_13) ∧
        ∃ (s24_2_14 : ByteArray), cellAt h3 b23_11 (o23_11 + (x5_4.toNat * 5) + 2) = some (.string s24_2_14) ∧
        ∃ (x24_3_15 : Int), cellAt h3 b23_11 (o23_11 + (x5_4.toNat * 5) + 3) = some (.int .i64 x24_3_15) ∧
        ∃ (x24_4_16 : Int), cellAt h3 b23_11 (o23_11 + (x5_4.toNat * 5) + 4) = some (.int .i64 x24_4_16) ∧
        CallsH PP fn_laws_eqHouseStep [.agg ⟨[.int .i64 x20_0_6, .int .i64 x20_1_7, .string s20_2_8, .int .i64 x20_3_9, .int .i64 x20_4_10]⟩, .agg ⟨[.int .i64 x24_0_12, .int .i64 x24_1_13, .string s24_2_14, .int .i64 x24_3_15, .int .i64 x24_4_16]⟩] h3 fun (v17 : Value) (h17 : Heap) =>
        ∃ (t25_18 : Bool), v17 = .bool t25_18 ∧
        (((!t25_18) = true →
          R (.bool false) h17) ∧
        ((!t25_18) = false →
          I3 [.int .i64 (IntKind.i64.wrap (x5_4 + 1))] h17 ∧ μ3 [.int .i64 (IntKind.i64.wrap (x5_4 + 1))] h17 < μ3 [.int .i64 x5_4] h3))) ∧
      ((decide ((x5_4 : Int) < ((np0_1 : Nat) : Int))) = false →
        R (.bool true) h3))))
def plan_laws_eqHouseStepS : Plan := .seq none (.leaf) (.seq none (.seq none (.leaf) (.cond (.seq none (.leaf) (.leaf)) (.leaf))) (.seq none (.seq none (.leaf) (.block (.loop [(5, .l (.int .i64))] (.seq none (.seq none (.leaf) (.cond (.leaf) (.leaf))) (.seq none (.block (.seq none (.draw (.op 0 (.op 1 (.op 2 (.op 3 (.op 4 (.op 5 (.op 6 (.op 7 (.op 8 (.op 9 .done))))))))))) (.cond (.seq none (.leaf) (.leaf)) (.leaf)))) (.leaf)))))) (.seq none (.leaf) (.leaf))))
theorem tie_laws_eqHouseStepS : (fun (ap0_1 : Option Addr) (np0_1 cp0_1 : Nat) (ap1_2 : Option Addr) (np1_2 cp1_2 : Nat) (h : Heap) (R : Value → Heap → Prop) => denF X0 Try.f37 (bodyOf Try.f37) plan_laws_eqHouseStepS [.l (.sl ap0_1 np0_1 cp0_1), .l (.sl ap1_2 np1_2 cp1_2)] h R) = M_laws_eqHouseStepS := by kernel_rfl
theorem calls_laws_eqHouseStepS (ap0_1 : Option Addr) (np0_1 cp0_1 : Nat) (ap1_2 : Option Addr) (np1_2 cp1_2 : Nat) {h : Heap} {R : Value → Heap → Prop} (hm : M_laws_eqHouseStepS ap0_1 np0_1 cp0_1 ap1_2 np1_2 cp1_2 h R) : CallsH PP fn_laws_eqHouseStepS [.slice ap0_1 np0_1 cp0_1, .slice ap1_2 np1_2 cp1_2] h R :=
  callsH_of X0ok Try.func37 (by kernel_rfl) plan_laws_eqHouseStepS [.l (.sl ap0_1 np0_1 cp0_1), .l (.sl ap1_2 np1_2 cp1_2)] (Eq.mpr (congrFun (congrFun (congrFun (congrFun (congrFun (congrFun (congrFun (congrFun tie_laws_eqHouseStepS ap0_1) np0_1) cp0_1) ap1_2) np1_2) cp1_2) h) R) hm)
/- 110: laws.eqHouseStep -/
def M_laws_eqHouseStep (xp0_0_1 : Int) (xp0_1_2 : Int) (sp0_2_3 : ByteArray) (xp0_3_4 : Int) (xp0_4_5 : Int) (xp1_0_6 : Int) (xp1_1_7 : Int) (sp1_2_8 : ByteArray) (xp1_3_9 : Int) (xp1_4_10 : Int) (h : Heap) (R : Value → Heap → Prop) : Prop :=
  ∀ h11 : Heap, h11 = newRowH h ty_impl_HouseStep [.int .i64 xp0_0_1, .int .i64 xp0_1_2, .string sp0_2_3, .int .i64 xp0_3_4, .int .i64 xp0_4_5] →
  ∀ h12 : Heap, h12 = newRowH h11 ty_impl_HouseStep [.int .i64 xp1_0_6, .int .i64 xp1_1_7, .string sp1_2_8, .int .i64 xp1_3_9, .int .i64 xp1_4_10] →
  ∃ (x6_13 : Int), cellAt h12 h.size 0 = some (.int .i64 x6_13) ∧
  ∃ (x8_14 : Int), cellAt h12 h11.size 0 = some (.int .i64 x8_14) ∧
  ((((x6_13 : Int) != x8_14) = true →
    R (.bool false) h12) ∧
  (((x6_13 : Int) != x8_14) = false →
    ∃ (x11_15 : Int), cellAt h12 h.size 1 = some (.int .i64 x11_15) ∧
    ∃ (x13_16 : Int), cellAt h12 h11.size 1 = some (.int .i64 x13_16) ∧
    ((((x11_15 : Int) != x13_16) = true →
      R (.bool false) h12) ∧
    (((x11_15 : Int) != x13_16) = false →
      ∃ (s16_0_17 : ByteArray), cellAt h12 h.size 2 = some (.string s16_0_17) ∧
      ∃ (x16_1_18 : Int), cellAt h12 h.size 3 = some (.int .i64 x16_1_18) ∧
      ∃ (x16_2_19 : Int), cellAt h12 h.size 4 = some (.int .i64 x16_2_19) ∧
      ∃ (s18_0_20 : ByteArray), cellAt h12 h11.size 2 = some (.string s18_0_20) ∧
      ∃ (x18_1_21 : Int), cellAt h12 h11.size 3 = some (.int .i64 x18_1_21) ∧
      ∃ (x18_2_22 : Int), cellAt h12 h11.size 4 = some (.int .i64 x18_2_22) ∧
      CallsH PP fn_laws_eqSay [.agg ⟨[.string s16_0_17, .int .i64 x16_1_18, .int .i64 x16_2_19]⟩, .agg ⟨[.string s18_0_20, .int .i64 x18_1_21, .int .i64 x18_2_22]⟩] h12 fun (v23 : Value) (h23 : Heap) =>
      ∃ (t19_24 : Bool), v23 = .bool t19_24 ∧
      (((!t19_24) = true →
        R (.bool false) h23) ∧
      ((!t19_24) = false →
        R (.bool true) h23))))))
def plan_laws_eqHouseStep : Plan := .seq none (.leaf) (.seq none (.seq none (.leaf) (.cond (.seq none (.leaf) (.leaf)) (.leaf))) (.seq none (.seq none (.leaf) (.cond (.seq none (.leaf) (.leaf)) (.leaf))) (.seq none (.seq none (.leaf) (.cond (.seq none (.leaf) (.leaf)) (.leaf))) (.seq none (.leaf) (.leaf)))))
theorem tie_laws_eqHouseStep : (fun (xp0_0_1 : Int) (xp0_1_2 : Int) (sp0_2_3 : ByteArray) (xp0_3_4 : Int) (xp0_4_5 : Int) (xp1_0_6 : Int) (xp1_1_7 : Int) (sp1_2_8 : ByteArray) (xp1_3_9 : Int) (xp1_4_10 : Int) (h : Heap) (R : Value → Heap → Prop) => denF X0 Try.f110 (bodyOf Try.f110) plan_laws_eqHouseStep [.agg [.int .i64 xp0_0_1, .int .i64 xp0_1_2, .str sp0_2_3, .int .i64 xp0_3_4, .int .i64 xp0_4_5], .agg [.int .i64 xp1_0_6, .int .i64 xp1_1_7, .str sp1_2_8, .int .i64 xp1_3_9, .int .i64 xp1_4_10]] h R) = M_laws_eqHouseStep := by kernel_rfl
theorem calls_laws_eqHouseStep (xp0_0_1 : Int) (xp0_1_2 : Int) (sp0_2_3 : ByteArray) (xp0_3_4 : Int) (xp0_4_5 : Int) (xp1_0_6 : Int) (xp1_1_7 : Int) (sp1_2_8 : ByteArray) (xp1_3_9 : Int) (xp1_4_10 : Int) {h : Heap} {R : Value → Heap → Prop} (hm : M_laws_eqHouseStep xp0_0_1 xp0_1_2 sp0_2_3 xp0_3_4 xp0_4_5 xp1_0_6 xp1_1_7 sp1_2_8 xp1_3_9 xp1_4_10 h R) : CallsH PP fn_laws_eqHouseStep [.agg ⟨[.int .i64 xp0_0_1, .int .i64 xp0_1_2, .string sp0_2_3, .int .i64 xp0_3_4, .int .i64 xp0_4_5]⟩, .agg ⟨[.int .i64 xp1_0_6, .int .i64 xp1_1_7, .string sp1_2_8, .int .i64 xp1_3_9, .int .i64 xp1_4_10]⟩] h R :=
  callsH_of X0ok Try.func110 (by kernel_rfl) plan_laws_eqHouseStep [.agg [.int .i64 xp0_0_1, .int .i64 xp0_1_2, .str sp0_2_3, .int .i64 xp0_3_4, .int .i64 xp0_4_5], .agg [.int .i64 xp1_0_6, .int .i64 xp1_1_7, .str sp1_2_8, .int .i64 xp1_3_9, .int .i64 xp1_4_10]] (Eq.mpr (congrFun (congrFun (congrFun (congrFun (congrFun (congrFun (congrFun (congrFun (congrFun (congrFun (congrFun (congrFun tie_laws_eqHouseStep xp0_0_1) xp0_1_2) sp0_2_3) xp0_3_4) xp0_4_5) xp1_0_6) xp1_1_7) sp1_2_8) xp1_3_9) xp1_4_10) h) R) hm)
/- 177: laws.eqSay -/
def M_laws_eqSay (sp0_0_1 : ByteArray) (xp0_1_2 : Int) (xp0_2_3 : Int) (sp1_0_4 : ByteArray) (xp1_1_5 : Int) (xp1_2_6 : Int) (h : Heap) (R : Value → Heap → Prop) : Prop :=
  ∀ h7 : Heap, h7 = newRowH h ty_impl_Say [.string sp0_0_1, .int .i64 xp0_1_2, .int .i64 xp0_2_3] →
  ∀ h8 : Heap, h8 = newRowH h7 ty_impl_Say [.string sp1_0_4, .int .i64 xp1_1_5, .int .i64 xp1_2_6] →
  ∃ (s6_9 : ByteArray), cellAt h8 h.size 0 = some (.string s6_9) ∧
  ∃ (s8_10 : ByteArray), cellAt h8 h7.size 0 = some (.string s8_10) ∧
  (((!((ByteArray.toList s6_9) == (ByteArray.toList s8_10))) = true →
    R (.bool false) h8) ∧
  ((!((ByteArray.toList s6_9) == (ByteArray.toList s8_10))) = false →
    ∃ (x11_11 : Int), cellAt h8 h.size 1 = some (.int .i64 x11_11) ∧
    ∃ (x13_12 : Int), cellAt h8 h7.size 1 = some (.int .i64 x13_12) ∧
    ((((x11_11 : Int) != x13_12) = true →
      R (.bool false) h8) ∧
    (((x11_11 : Int) != x13_12) = false →
      ∃ (x16_13 : Int), cellAt h8 h.size 2 = some (.int .i64 x16_13) ∧
      ∃ (x18_14 : Int), cellAt h8 h7.size 2 = some (.int .i64 x18_14) ∧
      ((((x16_13 : Int) != x18_14) = true →
        R (.bool false) h8) ∧
      (((x16_13 : Int) != x18_14) = false →
        R (.bool true) h8))))))
def plan_laws_eqSay : Plan := .seq none (.leaf) (.seq none (.seq none (.leaf) (.cond (.seq none (.leaf) (.leaf)) (.leaf))) (.seq none (.seq none (.leaf) (.cond (.seq none (.leaf) (.leaf)) (.leaf))) (.seq none (.seq none (.leaf) (.cond (.seq none (.leaf) (.leaf)) (.leaf))) (.seq none (.leaf) (.leaf)))))
theorem tie_laws_eqSay : (fun (sp0_0_1 : ByteArray) (xp0_1_2 : Int) (xp0_2_3 : Int) (sp1_0_4 : ByteArray) (xp1_1_5 : Int) (xp1_2_6 : Int) (h : Heap) (R : Value → Heap → Prop) => denF X0 Try.f177 (bodyOf Try.f177) plan_laws_eqSay [.agg [.str sp0_0_1, .int .i64 xp0_1_2, .int .i64 xp0_2_3], .agg [.str sp1_0_4, .int .i64 xp1_1_5, .int .i64 xp1_2_6]] h R) = M_laws_eqSay := by kernel_rfl
theorem calls_laws_eqSay (sp0_0_1 : ByteArray) (xp0_1_2 : Int) (xp0_2_3 : Int) (sp1_0_4 : ByteArray) (xp1_1_5 : Int) (xp1_2_6 : Int) {h : Heap} {R : Value → Heap → Prop} (hm : M_laws_eqSay sp0_0_1 xp0_1_2 xp0_2_3 sp1_0_4 xp1_1_5 xp1_2_6 h R) : CallsH PP fn_laws_eqSay [.agg ⟨[.string sp0_0_1, .int .i64 xp0_1_2, .int .i64 xp0_2_3]⟩, .agg ⟨[.string sp1_0_4, .int .i64 xp1_1_5, .int .i64 xp1_2_6]⟩] h R :=
  callsH_of X0ok Try.func177 (by kernel_rfl) plan_laws_eqSay [.agg [.str sp0_0_1, .int .i64 xp0_1_2, .int .i64 xp0_2_3], .agg [.str sp1_0_4, .int .i64 xp1_1_5, .int .i64 xp1_2_6]] (Eq.mpr (congrFun (congrFun (congrFun (congrFun (congrFun (congrFun (congrFun (congrFun tie_laws_eqSay sp0_0_1) xp0_1_2) xp0_2_3) sp1_0_4) xp1_1_5) xp1_2_6) h) R) hm)
/- 38: laws.markHouseStepS -/
def M_laws_markHouseStepS (ap0_1 : Option Addr) (np0_1 cp0_1 : Nat) (xp1_2 : Int) (h : Heap) (R : Value → Heap → Prop) : Prop :=
  ∃ (I3 : List Value → Heap → Prop) (μ3 : List Value → Heap → Nat), I3 [.int .i64 xp1_2, .int .i64 0] h ∧
  ∀ h3 : Heap, ∀ (x1_4 : Int), ∀ (x5_5 : Int), I3 [.int .i64 x1_4, .int .i64 x5_5] h3 →
    (((decide ((x5_5 : Int) < ((np0_1 : Nat) : Int))) = true →
      ∃ (b15_6 o15_6 : Nat), ap0_1 = some ⟨b15_6, o15_6, none⟩ ∧ (0 : Int) ≤ x5_5 ∧ (x5_5 : Int) < ((np0_1 : Nat) : Int) ∧
      ∃ (e7 : TypeId) (c7 : List Value), Row h3 b15_6 e7 c7 ∧ o15_6 + (x5_5.toNat * 5) < c7.length ∧
      ∀ h8 : Heap, h8 = putRow h3 b15_6 e7 (c7.set (o15_6 + (x5_5.toNat * 5)) (.int .i64 x1_4)) →
      ∃ (b22_9 o22_9 : Nat), ap0_1 = some ⟨b22_9, o22_9, none⟩ ∧ (0 : Int) ≤ x5_5 ∧ (x5_5 : Int) < ((np0_1 : Nat) : Int) ∧
      ∃ (e10 : TypeId) (c10 : List Value), Row h8 b22_9 e10 c10 ∧ o22_9 + (x5_5.toNat * 5) + 1 < c10.length ∧
      ∀ h11 : Heap, h11 = putRow h8 b22_9 e10 (c10.set (o22_9 + (x5_5.toNat * 5) + 1) (.int .i64 (IntKind.i64.wrap (x1_4 + 1)))) →
      CallsH PP fn_laws_markText [.int .i64 (IntKind.i64.wrap ((IntKind.i64.wrap (x1_4 + 1)) + 1))] h11 fun (v12 : Value) (h12 : Heap) =>
      ∃ (s29_13 : ByteArray), v12 = .string s29_13 ∧
      ∃ (b30_14 o30_14 : Nat), ap0_1 = some ⟨b30_14, o30_14, none⟩ ∧ (0 : Int) ≤ x5_5 ∧ (x5_5 : Int) < ((np0_1 : Nat) : Int) ∧
      ∃ (e15 : TypeId) (c15 : List Value), Row h12 b30_14 e15 c15 ∧ o30_14 + (x5_5.toNat * 5) + 2 < c15.length ∧
      ∀ h16 : Heap, h16 = putRow h12 b30_14 e15 (c15.set (o30_14 + (x5_5.toNat * 5) + 2) (.string s29_13)) →
      ∃ (b38_17 o38_17 : Nat), ap0_1 = some ⟨b38_17, o38_17, none⟩ ∧ (0 : Int) ≤ x5_5 ∧ (x5_5 : Int) < ((np0_1 : Nat) : Int) ∧
      ∃ (e18 : TypeId) (c18 : List Value), Row h16 b38_17 e18 c18 ∧ o38_17 + (x5_5.toNat * 5) + 3 < c18.length ∧
      ∀ h19 : Heap, h19 = putRow h16 b38_17 e18 (c18.set (o38_17 + (x5_5.toNat * 5) + 3) (.int .i64 (IntKind.i64.wrap ((IntKind.i64.wrap ((IntKind.i64.wrap (x1_4 + 1)) + 1)) + 1)))) →
      ∃ (b46_20 o46_20 : Nat), ap0_1 = some ⟨b46_20, o46_20, none⟩ ∧ (0 : Int) ≤ x5_5 ∧ (x5_5 : Int) < ((np0_1 : Nat) : Int) ∧
      ∃ (e21 : TypeId) (c21 : List Value), Row h19 b46_20 e21 c21 ∧ o46_20 + (x5_5.toNat * 5) + 4 < c21.length ∧
      ∀ h22 : Heap, h22 = putRow h19 b46_20 e21 (c21.set (o46_20 + (x5_5.toNat * 5) + 4) (.int .i64 (IntKind.i64.wrap ((IntKind.i64.wrap ((IntKind.i64.wrap ((IntKind.i64.wrap (x1_4 + 1)) + 1)) + 1)) + 1)))) →
      I3 [.int .i64 (IntKind.i64.wrap ((IntKind.i64.wrap ((IntKind.i64.wrap ((IntKind.i64.wrap ((IntKind.i64.wrap (x1_4 + 1)) + 1)) + 1)) + 1)) + 1)), .int .i64 (IntKind.i64.wrap (x5_5 + 1))] h22 ∧ μ3 [.int .i64 (IntKind.i64.wrap ((IntKind.i64.wrap ((IntKind.i64.wrap ((IntKind.i64.wrap ((IntKind.i64.wrap (x1_4 + 1)) + 1)) + 1)) + 1)) + 1)), .int .i64 (IntKind.i64.wrap (x5_5 + 1))] h22 < μ3 [.int .i64 x1_4, .int .i64 x5_5] h3) ∧
    ((decide ((x5_5 : Int) < ((np0_1 : Nat) : Int))) = false →
      R (.int .i64 x1_4) h3))
def plan_laws_markHouseStepS : Plan := .seq none (.leaf) (.seq none (.seq none (.leaf) (.block (.loop [(1, .l (.int .i64)), (5, .l (.int .i64))] (.seq none (.seq none (.leaf) (.cond (.leaf) (.leaf))) (.seq none (.block (.seq none (.leaf) (.seq none (.leaf) (.seq none (.leaf) (.seq none (.leaf) (.seq none (.leaf) (.seq none (.leaf) (.seq none (.leaf) (.seq none (.leaf) (.seq none (.leaf) (.leaf))))))))))) (.leaf)))))) (.seq none (.leaf) (.leaf)))
theorem tie_laws_markHouseStepS : (fun (ap0_1 : Option Addr) (np0_1 cp0_1 : Nat) (xp1_2 : Int) (h : Heap) (R : Value → Heap → Prop) => denF X0 Try.f38 (bodyOf Try.f38) plan_laws_markHouseStepS [.l (.sl ap0_1 np0_1 cp0_1), .l (.int .i64 xp1_2)] h R) = M_laws_markHouseStepS := by kernel_rfl
theorem calls_laws_markHouseStepS (ap0_1 : Option Addr) (np0_1 cp0_1 : Nat) (xp1_2 : Int) {h : Heap} {R : Value → Heap → Prop} (hm : M_laws_markHouseStepS ap0_1 np0_1 cp0_1 xp1_2 h R) : CallsH PP fn_laws_markHouseStepS [.slice ap0_1 np0_1 cp0_1, .int .i64 xp1_2] h R :=
  callsH_of X0ok Try.func38 (by kernel_rfl) plan_laws_markHouseStepS [.l (.sl ap0_1 np0_1 cp0_1), .l (.int .i64 xp1_2)] (Eq.mpr (congrFun (congrFun (congrFun (congrFun (congrFun (congrFun tie_laws_markHouseStepS ap0_1) np0_1) cp0_1) xp1_2) h) R) hm)
/- 111: laws.markText -/
def M_laws_markText (xp0_1 : Int) (h : Heap) (R : Value → Heap → Prop) : Prop :=
  (((decide ((xp0_1 : Int) ≤ 0)) = true →
    R (.string (⟨⟨[109, 48]⟩⟩ : ByteArray)) h) ∧
  ((decide ((xp0_1 : Int) ≤ 0)) = false →
    ∃ (I2 : List Value → Heap → Prop) (μ2 : List Value → Heap → Nat), I2 [.int .i64 xp0_1, .string (⟨⟨[]⟩⟩ : ByteArray)] h ∧
    ∀ h2 : Heap, ∀ (x0_3 : Int), ∀ (s3_4 : ByteArray), I2 [.int .i64 x0_3, .string s3_4] h2 →
      (((decide ((x0_3 : Int) > 0)) = true →
        (10 : Int) ≠ 0 ∧
        ∀ h5 : Heap, h5 = newRowH h2 ty_uint8 [.int .u8 (IntKind.u8.wrap (IntKind.i64.wrap (48 + (Int.tmod x0_3 10))))] →
        ((some ⟨h2.size, 0, none⟩ : Option Addr) = none → 1 = 0) ∧ ∃ bs13_6 : List UInt8, CellsAt h5 (some ⟨h2.size, 0, none⟩) (bs13_6.map fun b => .int .u8 (b.toNat : Int)) 1 ∧
        ByteArray.size (⟨⟨bs13_6⟩⟩ : ByteArray) + ByteArray.size s3_4 ≤ 9223372036854775807 ∧
        (10 : Int) ≠ 0 ∧
        I2 [.int .i64 (IntKind.i64.wrap (Int.tdiv x0_3 10)), .string ((⟨⟨bs13_6⟩⟩ : ByteArray) ++ s3_4)] h5 ∧ μ2 [.int .i64 (IntKind.i64.wrap (Int.tdiv x0_3 10)), .string ((⟨⟨bs13_6⟩⟩ : ByteArray) ++ s3_4)] h5 < μ2 [.int .i64 x0_3, .string s3_4] h2) ∧
      ((decide ((x0_3 : Int) > 0)) = false →
        ByteArray.size (⟨⟨[109]⟩⟩ : ByteArray) + ByteArray.size s3_4 ≤ 9223372036854775807 ∧
        R (.string ((⟨⟨[109]⟩⟩ : ByteArray) ++ s3_4)) h2))))
def plan_laws_markText : Plan := .seq none (.leaf) (.seq none (.seq none (.leaf) (.cond (.seq none (.leaf) (.leaf)) (.leaf))) (.seq none (.leaf) (.seq none (.block (.loop [(0, .l (.int .i64)), (3, .l (.str))] (.seq none (.seq none (.leaf) (.cond (.leaf) (.leaf))) (.block (.seq none (.leaf) (.leaf)))))) (.seq none (.leaf) (.leaf)))))
theorem tie_laws_markText : (fun (xp0_1 : Int) (h : Heap) (R : Value → Heap → Prop) => denF X0 Try.f111 (bodyOf Try.f111) plan_laws_markText [.l (.int .i64 xp0_1)] h R) = M_laws_markText := by kernel_rfl
theorem calls_laws_markText (xp0_1 : Int) {h : Heap} {R : Value → Heap → Prop} (hm : M_laws_markText xp0_1 h R) : CallsH PP fn_laws_markText [.int .i64 xp0_1] h R :=
  callsH_of X0ok Try.func111 (by kernel_rfl) plan_laws_markText [.l (.int .i64 xp0_1)] (Eq.mpr (congrFun (congrFun (congrFun tie_laws_markText xp0_1) h) R) hm)
/- 39: laws.markHead -/
def M_laws_markHead (ap0_0_1 : Option Addr) (np0_0_1 cp0_0_1 : Nat) (xp0_1_2 : Int) (xp1_3 : Int) (h : Heap) (R : Value → Heap → Prop) : Prop :=
  ∀ h4 : Heap, h4 = newRowH h ty_impl_Head [.slice ap0_0_1 np0_0_1 cp0_0_1, .int .i64 xp0_1_2] →
  ∃ (a6_5 : Option Addr) (n6_5 c6_5 : Nat), cellAt h4 h.size 0 = some (.slice a6_5 n6_5 c6_5) ∧
  CallsH PP fn_laws_markRowS [.slice a6_5 n6_5 c6_5, .int .i64 xp1_3] h4 fun (v6 : Value) (h6 : Heap) =>
  ∃ (x8_7 : Int), v6 = .int .i64 x8_7 ∧
  R (.int .i64 x8_7) h6
def plan_laws_markHead : Plan := .seq none (.leaf) (.seq none (.leaf) (.seq none (.leaf) (.leaf)))
theorem tie_laws_markHead : (fun (ap0_0_1 : Option Addr) (np0_0_1 cp0_0_1 : Nat) (xp0_1_2 : Int) (xp1_3 : Int) (h : Heap) (R : Value → Heap → Prop) => denF X0 Try.f39 (bodyOf Try.f39) plan_laws_markHead [.agg [.sl ap0_0_1 np0_0_1 cp0_0_1, .int .i64 xp0_1_2], .l (.int .i64 xp1_3)] h R) = M_laws_markHead := by kernel_rfl
theorem calls_laws_markHead (ap0_0_1 : Option Addr) (np0_0_1 cp0_0_1 : Nat) (xp0_1_2 : Int) (xp1_3 : Int) {h : Heap} {R : Value → Heap → Prop} (hm : M_laws_markHead ap0_0_1 np0_0_1 cp0_0_1 xp0_1_2 xp1_3 h R) : CallsH PP fn_laws_markHead [.agg ⟨[.slice ap0_0_1 np0_0_1 cp0_0_1, .int .i64 xp0_1_2]⟩, .int .i64 xp1_3] h R :=
  callsH_of X0ok Try.func39 (by kernel_rfl) plan_laws_markHead [.agg [.sl ap0_0_1 np0_0_1 cp0_0_1, .int .i64 xp0_1_2], .l (.int .i64 xp1_3)] (Eq.mpr (congrFun (congrFun (congrFun (congrFun (congrFun (congrFun (congrFun tie_laws_markHead ap0_0_1) np0_0_1) cp0_0_1) xp0_1_2) xp1_3) h) R) hm)
/- 112: laws.markRowS -/
def M_laws_markRowS (ap0_1 : Option Addr) (np0_1 cp0_1 : Nat) (xp1_2 : Int) (h : Heap) (R : Value → Heap → Prop) : Prop :=
  ∃ (I3 : List Value → Heap → Prop) (μ3 : List Value → Heap → Nat), I3 [.int .i64 xp1_2, .int .i64 0] h ∧
  ∀ h3 : Heap, ∀ (x1_4 : Int), ∀ (x5_5 : Int), I3 [.int .i64 x1_4, .int .i64 x5_5] h3 →
    (((decide ((x5_5 : Int) < ((np0_1 : Nat) : Int))) = true →
      CallsH PP fn_laws_markText [.int .i64 x1_4] h3 fun (v6 : Value) (h6 : Heap) =>
      ∃ (s15_7 : ByteArray), v6 = .string s15_7 ∧
      ∃ (b16_8 o16_8 : Nat), ap0_1 = some ⟨b16_8, o16_8, none⟩ ∧ (0 : Int) ≤ x5_5 ∧ (x5_5 : Int) < ((np0_1 : Nat) : Int) ∧
      ∃ (e9 : TypeId) (c9 : List Value), Row h6 b16_8 e9 c9 ∧ o16_8 + (x5_5.toNat * 2) < c9.length ∧
      ∀ h10 : Heap, h10 = putRow h6 b16_8 e9 (c9.set (o16_8 + (x5_5.toNat * 2)) (.string s15_7)) →
      ∃ (b22_11 o22_11 : Nat), ap0_1 = some ⟨b22_11, o22_11, none⟩ ∧ (0 : Int) ≤ x5_5 ∧ (x5_5 : Int) < ((np0_1 : Nat) : Int) ∧
      ∃ (a24_12 : Option Addr) (n24_12 c24_12 : Nat), cellAt h10 b22_11 (o22_11 + (x5_5.toNat * 2) + 1) = some (.slice a24_12 n24_12 c24_12) ∧
      CallsH PP fn_laws_markSampleS [.slice a24_12 n24_12 c24_12, .int .i64 (IntKind.i64.wrap (x1_4 + 1))] h10 fun (v13 : Value) (h13 : Heap) =>
      ∃ (x26_14 : Int), v13 = .int .i64 x26_14 ∧
      I3 [.int .i64 x26_14, .int .i64 (IntKind.i64.wrap (x5_5 + 1))] h13 ∧ μ3 [.int .i64 x26_14, .int .i64 (IntKind.i64.wrap (x5_5 + 1))] h13 < μ3 [.int .i64 x1_4, .int .i64 x5_5] h3) ∧
    ((decide ((x5_5 : Int) < ((np0_1 : Nat) : Int))) = false →
      R (.int .i64 x1_4) h3))
def plan_laws_markRowS : Plan := .seq none (.leaf) (.seq none (.seq none (.leaf) (.block (.loop [(1, .l (.int .i64)), (5, .l (.int .i64))] (.seq none (.seq none (.leaf) (.cond (.leaf) (.leaf))) (.seq none (.block (.seq none (.leaf) (.seq none (.leaf) (.leaf)))) (.leaf)))))) (.seq none (.leaf) (.leaf)))
theorem tie_laws_markRowS : (fun (ap0_1 : Option Addr) (np0_1 cp0_1 : Nat) (xp1_2 : Int) (h : Heap) (R : Value → Heap → Prop) => denF X0 Try.f112 (bodyOf Try.f112) plan_laws_markRowS [.l (.sl ap0_1 np0_1 cp0_1), .l (.int .i64 xp1_2)] h R) = M_laws_markRowS := by kernel_rfl
theorem calls_laws_markRowS (ap0_1 : Option Addr) (np0_1 cp0_1 : Nat) (xp1_2 : Int) {h : Heap} {R : Value → Heap → Prop} (hm : M_laws_markRowS ap0_1 np0_1 cp0_1 xp1_2 h R) : CallsH PP fn_laws_markRowS [.slice ap0_1 np0_1 cp0_1, .int .i64 xp1_2] h R :=
  callsH_of X0ok Try.func112 (by kernel_rfl) plan_laws_markRowS [.l (.sl ap0_1 np0_1 cp0_1), .l (.int .i64 xp1_2)] (Eq.mpr (congrFun (congrFun (congrFun (congrFun (congrFun (congrFun tie_laws_markRowS ap0_1) np0_1) cp0_1) xp1_2) h) R) hm)
/- 178: laws.markSampleS -/
def M_laws_markSampleS (ap0_1 : Option Addr) (np0_1 cp0_1 : Nat) (xp1_2 : Int) (h : Heap) (R : Value → Heap → Prop) : Prop :=
  ∃ (I3 : List Value → Heap → Prop) (μ3 : List Value → Heap → Nat), I3 [.int .i64 xp1_2, .int .i64 0] h ∧
  ∀ h3 : Heap, ∀ (x1_4 : Int), ∀ (x5_5 : Int), I3 [.int .i64 x1_4, .int .i64 x5_5] h3 →
    (((decide ((x5_5 : Int) < ((np0_1 : Nat) : Int))) = true →
      ∃ (b15_6 o15_6 : Nat), ap0_1 = some ⟨b15_6, o15_6, none⟩ ∧ (0 : Int) ≤ x5_5 ∧ (x5_5 : Int) < ((np0_1 : Nat) : Int) ∧
      ∃ (e7 : TypeId) (c7 : List Value), Row h3 b15_6 e7 c7 ∧ o15_6 + (x5_5.toNat * 2) < c7.length ∧
      ∀ h8 : Heap, h8 = putRow h3 b15_6 e7 (c7.set (o15_6 + (x5_5.toNat * 2)) (.int .i64 x1_4)) →
      ∃ (b22_9 o22_9 : Nat), ap0_1 = some ⟨b22_9, o22_9, none⟩ ∧ (0 : Int) ≤ x5_5 ∧ (x5_5 : Int) < ((np0_1 : Nat) : Int) ∧
      ∃ (e10 : TypeId) (c10 : List Value), Row h8 b22_9 e10 c10 ∧ o22_9 + (x5_5.toNat * 2) + 1 < c10.length ∧
      ∀ h11 : Heap, h11 = putRow h8 b22_9 e10 (c10.set (o22_9 + (x5_5.toNat * 2) + 1) (.int .i64 (IntKind.i64.wrap (x1_4 + 1)))) →
      I3 [.int .i64 (IntKind.i64.wrap ((IntKind.i64.wrap (x1_4 + 1)) + 1)), .int .i64 (IntKind.i64.wrap (x5_5 + 1))] h11 ∧ μ3 [.int .i64 (IntKind.i64.wrap ((IntKind.i64.wrap (x1_4 + 1)) + 1)), .int .i64 (IntKind.i64.wrap (x5_5 + 1))] h11 < μ3 [.int .i64 x1_4, .int .i64 x5_5] h3) ∧
    ((decide ((x5_5 : Int) < ((np0_1 : Nat) : Int))) = false →
      R (.int .i64 x1_4) h3))
def plan_laws_markSampleS : Plan := .seq none (.leaf) (.seq none (.seq none (.leaf) (.block (.loop [(1, .l (.int .i64)), (5, .l (.int .i64))] (.seq none (.seq none (.leaf) (.cond (.leaf) (.leaf))) (.seq none (.block (.seq none (.leaf) (.seq none (.leaf) (.seq none (.leaf) (.leaf))))) (.leaf)))))) (.seq none (.leaf) (.leaf)))
theorem tie_laws_markSampleS : (fun (ap0_1 : Option Addr) (np0_1 cp0_1 : Nat) (xp1_2 : Int) (h : Heap) (R : Value → Heap → Prop) => denF X0 Try.f178 (bodyOf Try.f178) plan_laws_markSampleS [.l (.sl ap0_1 np0_1 cp0_1), .l (.int .i64 xp1_2)] h R) = M_laws_markSampleS := by kernel_rfl
theorem calls_laws_markSampleS (ap0_1 : Option Addr) (np0_1 cp0_1 : Nat) (xp1_2 : Int) {h : Heap} {R : Value → Heap → Prop} (hm : M_laws_markSampleS ap0_1 np0_1 cp0_1 xp1_2 h R) : CallsH PP fn_laws_markSampleS [.slice ap0_1 np0_1 cp0_1, .int .i64 xp1_2] h R :=
  callsH_of X0ok Try.func178 (by kernel_rfl) plan_laws_markSampleS [.l (.sl ap0_1 np0_1 cp0_1), .l (.int .i64 xp1_2)] (Eq.mpr (congrFun (congrFun (congrFun (congrFun (congrFun (congrFun tie_laws_markSampleS ap0_1) np0_1) cp0_1) xp1_2) h) R) hm)
/- 40: laws.heldHead -/
def M_laws_heldHead (ap0_0_1 : Option Addr) (np0_0_1 cp0_0_1 : Nat) (xp0_1_2 : Int) (xp1_3 : Int) (h : Heap) (R : Value → Heap → Prop) : Prop :=
  ∀ h4 : Heap, h4 = newRowH h ty_impl_Head [.slice ap0_0_1 np0_0_1 cp0_0_1, .int .i64 xp0_1_2] →
  ∃ (a6_5 : Option Addr) (n6_5 c6_5 : Nat), cellAt h4 h.size 0 = some (.slice a6_5 n6_5 c6_5) ∧
  CallsH PP fn_laws_heldRowS [.slice a6_5 n6_5 c6_5, .int .i64 xp1_3] h4 fun (v6 : Value) (h6 : Heap) =>
  ∃ (x8_7 : Int), v6 = .int .i64 x8_7 ∧
  (((decide ((x8_7 : Int) < 0)) = true →
    R (.int .i64 (-1)) h6) ∧
  ((decide ((x8_7 : Int) < 0)) = false →
    R (.int .i64 x8_7) h6))
def plan_laws_heldHead : Plan := .seq none (.leaf) (.seq none (.leaf) (.seq none (.seq none (.leaf) (.cond (.seq none (.leaf) (.leaf)) (.leaf))) (.seq none (.leaf) (.leaf))))
theorem tie_laws_heldHead : (fun (ap0_0_1 : Option Addr) (np0_0_1 cp0_0_1 : Nat) (xp0_1_2 : Int) (xp1_3 : Int) (h : Heap) (R : Value → Heap → Prop) => denF X0 Try.f40 (bodyOf Try.f40) plan_laws_heldHead [.agg [.sl ap0_0_1 np0_0_1 cp0_0_1, .int .i64 xp0_1_2], .l (.int .i64 xp1_3)] h R) = M_laws_heldHead := by kernel_rfl
theorem calls_laws_heldHead (ap0_0_1 : Option Addr) (np0_0_1 cp0_0_1 : Nat) (xp0_1_2 : Int) (xp1_3 : Int) {h : Heap} {R : Value → Heap → Prop} (hm : M_laws_heldHead ap0_0_1 np0_0_1 cp0_0_1 xp0_1_2 xp1_3 h R) : CallsH PP fn_laws_heldHead [.agg ⟨[.slice ap0_0_1 np0_0_1 cp0_0_1, .int .i64 xp0_1_2]⟩, .int .i64 xp1_3] h R :=
  callsH_of X0ok Try.func40 (by kernel_rfl) plan_laws_heldHead [.agg [.sl ap0_0_1 np0_0_1 cp0_0_1, .int .i64 xp0_1_2], .l (.int .i64 xp1_3)] (Eq.mpr (congrFun (congrFun (congrFun (congrFun (congrFun (congrFun (congrFun tie_laws_heldHead ap0_0_1) np0_0_1) cp0_0_1) xp0_1_2) xp1_3) h) R) hm)
/- 113: laws.heldRowS -/
def M_laws_heldRowS (ap0_1 : Option Addr) (np0_1 cp0_1 : Nat) (xp1_2 : Int) (h : Heap) (R : Value → Heap → Prop) : Prop :=
  ∃ (I3 : List Value → Heap → Prop) (μ3 : List Value → Heap → Nat), I3 [.int .i64 xp1_2, .int .i64 0] h ∧
  ∀ h3 : Heap, ∀ (x1_4 : Int), ∀ (x5_5 : Int), I3 [.int .i64 x1_4, .int .i64 x5_5] h3 →
    (((decide ((x5_5 : Int) < ((np0_1 : Nat) : Int))) = true →
      ∃ (b14_6 o14_6 : Nat), ap0_1 = some ⟨b14_6, o14_6, none⟩ ∧ (0 : Int) ≤ x5_5 ∧ (x5_5 : Int) < ((np0_1 : Nat) : Int) ∧
      ∃ (s16_7 : ByteArray), cellAt h3 b14_6 (o14_6 + (x5_5.toNat * 2)) = some (.string s16_7) ∧
      CallsH PP fn_laws_markText [.int .i64 x1_4] h3 fun (v8 : Value) (h8 : Heap) =>
      ∃ (s18_9 : ByteArray), v8 = .string s18_9 ∧
      cellAt h8 b14_6 (o14_6 + (x5_5.toNat * 2)) = some (.string s16_7) ∧
      (((!((ByteArray.toList s16_7) == (ByteArray.toList s18_9))) = true →
        R (.int .i64 (-1)) h8) ∧
      ((!((ByteArray.toList s16_7) == (ByteArray.toList s18_9))) = false →
        ∃ (b24_10 o24_10 : Nat), ap0_1 = some ⟨b24_10, o24_10, none⟩ ∧ (0 : Int) ≤ x5_5 ∧ (x5_5 : Int) < ((np0_1 : Nat) : Int) ∧
        ∃ (a26_11 : Option Addr) (n26_11 c26_11 : Nat), cellAt h8 b24_10 (o24_10 + (x5_5.toNat * 2) + 1) = some (.slice a26_11 n26_11 c26_11) ∧
        CallsH PP fn_laws_heldSampleS [.slice a26_11 n26_11 c26_11, .int .i64 (IntKind.i64.wrap (x1_4 + 1))] h8 fun (v12 : Value) (h12 : Heap) =>
        ∃ (x28_13 : Int), v12 = .int .i64 x28_13 ∧
        (((decide ((x28_13 : Int) < 0)) = true →
          R (.int .i64 (-1)) h12) ∧
        ((decide ((x28_13 : Int) < 0)) = false →
          I3 [.int .i64 x28_13, .int .i64 (IntKind.i64.wrap (x5_5 + 1))] h12 ∧ μ3 [.int .i64 x28_13, .int .i64 (IntKind.i64.wrap (x5_5 + 1))] h12 < μ3 [.int .i64 x1_4, .int .i64 x5_5] h3))))) ∧
    ((decide ((x5_5 : Int) < ((np0_1 : Nat) : Int))) = false →
      R (.int .i64 x1_4) h3))
def plan_laws_heldRowS : Plan := .seq none (.leaf) (.seq none (.seq none (.leaf) (.block (.loop [(1, .l (.int .i64)), (5, .l (.int .i64))] (.seq none (.seq none (.leaf) (.cond (.leaf) (.leaf))) (.seq none (.block (.seq none (.seq none (.draw (.op 0 (.op 1 (.op 2 (.op 3 (.op 4 (.op 5 (.op 6 (.op 7 .done))))))))) (.cond (.seq none (.leaf) (.leaf)) (.leaf))) (.seq none (.leaf) (.seq none (.leaf) (.seq none (.leaf) (.cond (.seq none (.leaf) (.leaf)) (.leaf))))))) (.leaf)))))) (.seq none (.leaf) (.leaf)))
theorem tie_laws_heldRowS : (fun (ap0_1 : Option Addr) (np0_1 cp0_1 : Nat) (xp1_2 : Int) (h : Heap) (R : Value → Heap → Prop) => denF X0 Try.f113 (bodyOf Try.f113) plan_laws_heldRowS [.l (.sl ap0_1 np0_1 cp0_1), .l (.int .i64 xp1_2)] h R) = M_laws_heldRowS := by kernel_rfl
theorem calls_laws_heldRowS (ap0_1 : Option Addr) (np0_1 cp0_1 : Nat) (xp1_2 : Int) {h : Heap} {R : Value → Heap → Prop} (hm : M_laws_heldRowS ap0_1 np0_1 cp0_1 xp1_2 h R) : CallsH PP fn_laws_heldRowS [.slice ap0_1 np0_1 cp0_1, .int .i64 xp1_2] h R :=
  callsH_of X0ok Try.func113 (by kernel_rfl) plan_laws_heldRowS [.l (.sl ap0_1 np0_1 cp0_1), .l (.int .i64 xp1_2)] (Eq.mpr (congrFun (congrFun (congrFun (congrFun (congrFun (congrFun tie_laws_heldRowS ap0_1) np0_1) cp0_1) xp1_2) h) R) hm)
/- 179: laws.heldSampleS -/
def M_laws_heldSampleS (ap0_1 : Option Addr) (np0_1 cp0_1 : Nat) (xp1_2 : Int) (h : Heap) (R : Value → Heap → Prop) : Prop :=
  ∃ (I3 : List Value → Heap → Prop) (μ3 : List Value → Heap → Nat), I3 [.int .i64 xp1_2, .int .i64 0] h ∧
  ∀ h3 : Heap, ∀ (x1_4 : Int), ∀ (x5_5 : Int), I3 [.int .i64 x1_4, .int .i64 x5_5] h3 →
    (((decide ((x5_5 : Int) < ((np0_1 : Nat) : Int))) = true →
      ∃ (b14_6 o14_6 : Nat), ap0_1 = some ⟨b14_6, o14_6, none⟩ ∧ (0 : Int) ≤ x5_5 ∧ (x5_5 : Int) < ((np0_1 : Nat) : Int) ∧
      ∃ (x16_7 : Int), cellAt h3 b14_6 (o14_6 + (x5_5.toNat * 2)) = some (.int .i64 x16_7) ∧
      ((((x16_7 : Int) != x1_4) = true →
        R (.int .i64 (-1)) h3) ∧
      (((x16_7 : Int) != x1_4) = false →
        ∃ (b23_8 o23_8 : Nat), ap0_1 = some ⟨b23_8, o23_8, none⟩ ∧ (0 : Int) ≤ x5_5 ∧ (x5_5 : Int) < ((np0_1 : Nat) : Int) ∧
        ∃ (x25_9 : Int), cellAt h3 b23_8 (o23_8 + (x5_5.toNat * 2) + 1) = some (.int .i64 x25_9) ∧
        ((((x25_9 : Int) != (IntKind.i64.wrap (x1_4 + 1))) = true →
          R (.int .i64 (-1)) h3) ∧
        (((x25_9 : Int) != (IntKind.i64.wrap (x1_4 + 1))) = false →
          I3 [.int .i64 (IntKind.i64.wrap ((IntKind.i64.wrap (x1_4 + 1)) + 1)), .int .i64 (IntKind.i64.wrap (x5_5 + 1))] h3 ∧ μ3 [.int .i64 (IntKind.i64.wrap ((IntKind.i64.wrap (x1_4 + 1)) + 1)), .int .i64 (IntKind.i64.wrap (x5_5 + 1))] h3 < μ3 [.int .i64 x1_4, .int .i64 x5_5] h3))))) ∧
    ((decide ((x5_5 : Int) < ((np0_1 : Nat) : Int))) = false →
      R (.int .i64 x1_4) h3))
def plan_laws_heldSampleS : Plan := .seq none (.leaf) (.seq none (.seq none (.leaf) (.block (.loop [(1, .l (.int .i64)), (5, .l (.int .i64))] (.seq none (.seq none (.leaf) (.cond (.leaf) (.leaf))) (.seq none (.block (.seq none (.seq none (.leaf) (.cond (.seq none (.leaf) (.leaf)) (.leaf))) (.seq none (.leaf) (.seq none (.seq none (.leaf) (.cond (.seq none (.leaf) (.leaf)) (.leaf))) (.leaf))))) (.leaf)))))) (.seq none (.leaf) (.leaf)))
theorem tie_laws_heldSampleS : (fun (ap0_1 : Option Addr) (np0_1 cp0_1 : Nat) (xp1_2 : Int) (h : Heap) (R : Value → Heap → Prop) => denF X0 Try.f179 (bodyOf Try.f179) plan_laws_heldSampleS [.l (.sl ap0_1 np0_1 cp0_1), .l (.int .i64 xp1_2)] h R) = M_laws_heldSampleS := by kernel_rfl
theorem calls_laws_heldSampleS (ap0_1 : Option Addr) (np0_1 cp0_1 : Nat) (xp1_2 : Int) {h : Heap} {R : Value → Heap → Prop} (hm : M_laws_heldSampleS ap0_1 np0_1 cp0_1 xp1_2 h R) : CallsH PP fn_laws_heldSampleS [.slice ap0_1 np0_1 cp0_1, .int .i64 xp1_2] h R :=
  callsH_of X0ok Try.func179 (by kernel_rfl) plan_laws_heldSampleS [.l (.sl ap0_1 np0_1 cp0_1), .l (.int .i64 xp1_2)] (Eq.mpr (congrFun (congrFun (congrFun (congrFun (congrFun (congrFun tie_laws_heldSampleS ap0_1) np0_1) cp0_1) xp1_2) h) R) hm)
end Go.Proofs.Ytjmhahjmbmiepaa.D
