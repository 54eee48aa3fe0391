/- The M-code of functions: what their code comes to, read at the heap. PRINTED by gen.py. -/
import Derived.Test.YtjmhahjmbmiepaaTab
namespace Go.Proofs.Ytjmhahjmbmiepaa.D
open Go Go.Proofs
set_option linter.unusedVariables false
set_option linter.unusedSimpArgs false
set_option maxRecDepth 100000
/- 6: laws.FnExactTopOf -/
def M_laws_FnExactTopOf (ap0_1 : Option Addr) (np0_1 cp0_1 : Nat) (xp1_2 : Int) (xp2_3 : Int) (h : Heap) (R : Value → Heap → Prop) : Prop :=
  CallsH PP fn_laws_szTotalS [.slice ap0_1 np0_1 cp0_1, .int .i64 1048576] h fun (v4 : Value) (h4 : Heap) =>
  ∃ (x20_5 : Int), v4 = .int .i64 x20_5 ∧
  (((decide ((x20_5 : Int) < 0)) = true →
    R (.bool true) h4) ∧
  ((decide ((x20_5 : Int) < 0)) = false →
    CallsH PP fn_laws_toTotalS [.slice ap0_1 np0_1 cp0_1] h4 fun (v6 : Value) (h6 : Heap) =>
    ∃ (a25_7 : Option Addr) (n25_7 c25_7 : Nat), v6 = .slice a25_7 n25_7 c25_7 ∧
    CallsH PP fn_spec_TopOf [.slice a25_7 n25_7 c25_7, .int .i64 xp1_2, .int .i64 xp2_3] h6 fun (v8 : Value) (h8 : Heap) =>
    ∃ (a28_0_9 : Option Addr) (n28_0_9 c28_0_9 : Nat), ∃ (t28_1_10 : Bool), v8 = .tuple ⟨[.slice a28_0_9 n28_0_9 c28_0_9, .bool t28_1_10]⟩ ∧
    CallsH PP fn_laws_toTotalS [.slice ap0_1 np0_1 cp0_1] h8 fun (v11 : Value) (h11 : Heap) =>
    ∃ (a32_12 : Option Addr) (n32_12 c32_12 : Nat), v11 = .slice a32_12 n32_12 c32_12 ∧
    CallsH PP fn_impl_TopOf [.slice a32_12 n32_12 c32_12, .int .i64 xp1_2, .int .i64 xp2_3] h11 fun (v13 : Value) (h13 : Heap) =>
    ∃ (a37_0_14 : Option Addr) (n37_0_14 c37_0_14 : Nat), ∃ (t37_1_15 : Bool), v13 = .tuple ⟨[.slice a37_0_14 n37_0_14 c37_0_14, .bool t37_1_15]⟩ ∧
    CallsH PP fn_laws_eqIntS [.slice a37_0_14 n37_0_14 c37_0_14, .slice a28_0_9 n28_0_9 c28_0_9] h13 fun (v16 : Value) (h16 : Heap) =>
    ∃ (t42_17 : Bool), v16 = .bool t42_17 ∧
    (((!t42_17) = false →
      (((!(t37_1_15 == t28_1_10)) = true →
        R (.bool false) h16) ∧
      ((!(t37_1_15 == t28_1_10)) = false →
        CallsH PP fn_laws_toTotalS [.slice ap0_1 np0_1 cp0_1] h16 fun (v18 : Value) (h18 : Heap) =>
        ∃ (a51_19 : Option Addr) (n51_19 c51_19 : Nat), v18 = .slice a51_19 n51_19 c51_19 ∧
        CallsH PP fn_laws_eqTotalS [.slice a32_12 n32_12 c32_12, .slice a51_19 n51_19 c51_19] h18 fun (v20 : Value) (h20 : Heap) =>
        ∃ (t52_21 : Bool), v20 = .bool t52_21 ∧
        (((!t52_21) = true →
          R (.bool false) h20) ∧
        ((!t52_21) = false →
          CallsH PP fn_laws_markTotalS [.slice a32_12 n32_12 c32_12, .int .i64 1] h20 fun (v22 : Value) (h22 : Heap) =>
          ∃ (x56_23 : Int), v22 = .int .i64 x56_23 ∧
          (((decide ((x56_23 : Int) < 0)) = false →
            CallsH PP fn_laws_eqIntS [.slice a37_0_14 n37_0_14 c37_0_14, .slice a28_0_9 n28_0_9 c28_0_9] h22 fun (v24 : Value) (h24 : Heap) =>
            ∃ (t62_25 : Bool), v24 = .bool t62_25 ∧
            (((!t62_25) = false →
              (((!(t37_1_15 == t28_1_10)) = true →
                R (.bool false) h24) ∧
              ((!(t37_1_15 == t28_1_10)) = false →
                CallsH PP fn_laws_markIntS [.slice a37_0_14 n37_0_14 c37_0_14, .int .i64 1] h24 fun (v26 : Value) (h26 : Heap) =>
                ∃ (x72_27 : Int), v26 = .int .i64 x72_27 ∧
                CallsH PP fn_laws_heldIntS [.slice a37_0_14 n37_0_14 c37_0_14, .int .i64 1] h26 fun (v28 : Value) (h28 : Heap) =>
                ∃ (x75_29 : Int), v28 = .int .i64 x75_29 ∧
                (((decide ((x75_29 : Int) < 0)) = true →
                  R (.bool false) h28) ∧
                ((decide ((x75_29 : Int) < 0)) = false →
                  ((((x75_29 : Int) != x72_27) = true →
                    R (.bool false) h28) ∧
                  (((x75_29 : Int) != x72_27) = false →
                    CallsH PP fn_laws_toTotalS [.slice ap0_1 np0_1 cp0_1] h28 fun (v30 : Value) (h30 : Heap) =>
                    ∃ (a83_31 : Option Addr) (n83_31 c83_31 : Nat), v30 = .slice a83_31 n83_31 c83_31 ∧
                    CallsH PP fn_impl_TopOf [.slice a83_31 n83_31 c83_31, .int .i64 xp1_2, .int .i64 xp2_3] h30 fun (v32 : Value) (h32 : Heap) =>
                    ∃ (a86_0_33 : Option Addr) (n86_0_33 c86_0_33 : Nat), ∃ (t86_1_34 : Bool), v32 = .tuple ⟨[.slice a86_0_33 n86_0_33 c86_0_33, .bool t86_1_34]⟩ ∧
                    CallsH PP fn_laws_eqIntS [.slice a86_0_33 n86_0_33 c86_0_33, .slice a28_0_9 n28_0_9 c28_0_9] h32 fun (v35 : Value) (h35 : Heap) =>
                    ∃ (t91_36 : Bool), v35 = .bool t91_36 ∧
                    (((!t91_36) = false →
                      (((!(t86_1_34 == t28_1_10)) = true →
                        R (.bool false) h35) ∧
                      ((!(t86_1_34 == t28_1_10)) = false →
                        CallsH PP fn_laws_heldIntS [.slice a37_0_14 n37_0_14 c37_0_14, .int .i64 1] h35 fun (v37 : Value) (h37 : Heap) =>
                        ∃ (x100_38 : Int), v37 = .int .i64 x100_38 ∧
                        (((decide ((x100_38 : Int) < 0)) = true →
                          R (.bool false) h37) ∧
                        ((decide ((x100_38 : Int) < 0)) = false →
                          ((((x100_38 : Int) != x72_27) = true →
                            R (.bool false) h37) ∧
                          (((x100_38 : Int) != x72_27) = false →
                            R (.bool true) h37))))))) ∧
                    ((!t91_36) = true →
                      R (.bool false) h35))))))))) ∧
            ((!t62_25) = true →
              R (.bool false) h24))) ∧
          ((decide ((x56_23 : Int) < 0)) = true →
            R (.bool false) h22))))))) ∧
    ((!t42_17) = true →
      R (.bool false) h16))))
def plan_laws_FnExactTopOf : Plan := .seq none (.leaf) (.seq none (.leaf) (.seq none (.leaf) (.seq none (.seq none (.leaf) (.cond (.seq none (.leaf) (.leaf)) (.leaf))) (.seq none (.leaf) (.seq none (.leaf) (.seq none (.leaf) (.seq none (.seq none (.leaf) (.cond (.seq none (.leaf) (.leaf)) (.leaf))) (.seq none (.seq none (.leaf) (.cond (.seq none (.leaf) (.leaf)) (.leaf))) (.seq none (.leaf) (.seq none (.leaf) (.seq none (.seq none (.leaf) (.cond (.seq none (.leaf) (.leaf)) (.leaf))) (.seq none (.leaf) (.seq none (.leaf) (.seq none (.leaf) (.seq none (.leaf) (.seq none (.seq none (.leaf) (.cond (.seq none (.leaf) (.leaf)) (.leaf))) (.seq none (.seq none (.leaf) (.cond (.seq none (.leaf) (.leaf)) (.leaf))) (.seq none (.leaf) (.seq none (.seq none (.leaf) (.cond (.seq none (.leaf) (.leaf)) (.leaf))) (.seq none (.leaf) (.seq none (.leaf) (.seq none (.seq none (.leaf) (.cond (.seq none (.leaf) (.leaf)) (.leaf))) (.seq none (.seq none (.leaf) (.cond (.seq none (.leaf) (.leaf)) (.leaf))) (.seq none (.leaf) (.leaf)))))))))))))))))))))))))
theorem tie_laws_FnExactTopOf : (fun (ap0_1 : Option Addr) (np0_1 cp0_1 : Nat) (xp1_2 : Int) (xp2_3 : Int) (h : Heap) (R : Value → Heap → Prop) => denF X0 Try.f6 (bodyOf Try.f6) plan_laws_FnExactTopOf [.l (.sl ap0_1 np0_1 cp0_1), .l (.int .i64 xp1_2), .l (.int .i64 xp2_3)] h R) = M_laws_FnExactTopOf := by kernel_rfl
theorem calls_laws_FnExactTopOf (ap0_1 : Option Addr) (np0_1 cp0_1 : Nat) (xp1_2 : Int) (xp2_3 : Int) {h : Heap} {R : Value → Heap → Prop} (hm : M_laws_FnExactTopOf ap0_1 np0_1 cp0_1 xp1_2 xp2_3 h R) : CallsH PP fn_laws_FnExactTopOf [.slice ap0_1 np0_1 cp0_1, .int .i64 xp1_2, .int .i64 xp2_3] h R :=
  callsH_of X0ok Try.func6 (by kernel_rfl) plan_laws_FnExactTopOf [.l (.sl ap0_1 np0_1 cp0_1), .l (.int .i64 xp1_2), .l (.int .i64 xp2_3)] (Eq.mpr (congrFun (congrFun (congrFun (congrFun (congrFun (congrFun (congrFun tie_laws_FnExactTopOf ap0_1) np0_1) cp0_1) xp1_2) xp2_3) h) R) hm)
end Go.Proofs.Ytjmhahjmbmiepaa.D
