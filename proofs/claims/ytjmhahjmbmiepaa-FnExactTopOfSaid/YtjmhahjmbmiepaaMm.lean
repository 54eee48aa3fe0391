/- The M-code of functions: what their code comes to, read at the heap. PRINTED by gen.py. -/
import Derived.Test.YtjmhahjmbmiepaaTab
namespace Go.Proofs.Ytjmhahjmbmiepaa.D
open Go Go.Proofs
set_option linter.unusedVariables false
set_option linter.unusedSimpArgs false
set_option maxRecDepth 100000
/- 111: laws.markText -/
def M_laws_markText (xp0_1 : Int) (h : Heap) (R : Value → Heap → Prop) : Prop :=
  (((decide ((xp0_1 : Int) ≤ 0)) = true →
    R (.string (⟨⟨[109, 48]⟩⟩ : ByteArray)) h) ∧
  ((decide ((xp0_1 : Int) ≤ 0)) = false →
    ∃ (I2 : List Value → Heap → Prop) (μ2 : List Value → Heap → Nat), I2 [.int .i64 xp0_1, .string (⟨⟨[]⟩⟩ : ByteArray)] h ∧
    ∀ h2 : Heap, ∀ (x0_3 : Int), ∀ (s3_4 : ByteArray), I2 [.int .i64 x0_3, .string s3_4] h2 →
      (((decide ((x0_3 : Int) > 0)) = true →
        (10 : Int) ≠ 0 ∧
        ∀ h5 : Heap, h5 = newRowH h2 ty_uint8 [.int .u8 (IntKind.u8.wrap (IntKind.i64.wrap (48 + (Int.tmod x0_3 10))))] →
        ((some ⟨h2.size, 0, none⟩ : Option Addr) = none → 1 = 0) ∧ ∃ bs13_6 : List UInt8, CellsAt h5 (some ⟨h2.size, 0, none⟩) (bs13_6.map fun b => .int .u8 (b.toNat : Int)) 1 ∧
        ByteArray.size (⟨⟨bs13_6⟩⟩ : ByteArray) + ByteArray.size s3_4 ≤ 9223372036854775807 ∧
        (10 : Int) ≠ 0 ∧
        I2 [.int .i64 (IntKind.i64.wrap (Int.tdiv x0_3 10)), .string ((⟨⟨bs13_6⟩⟩ : ByteArray) ++ s3_4)] h5 ∧ μ2 [.int .i64 (IntKind.i64.wrap (Int.tdiv x0_3 10)), .string ((⟨⟨bs13_6⟩⟩ : ByteArray) ++ s3_4)] h5 < μ2 [.int .i64 x0_3, .string s3_4] h2) ∧
      ((decide ((x0_3 : Int) > 0)) = false →
        ByteArray.size (⟨⟨[109]⟩⟩ : ByteArray) + ByteArray.size s3_4 ≤ 9223372036854775807 ∧
        R (.string ((⟨⟨[109]⟩⟩ : ByteArray) ++ s3_4)) h2))))
def plan_laws_markText : Plan := .seq none (.leaf) (.seq none (.seq none (.leaf) (.cond (.seq none (.leaf) (.leaf)) (.leaf))) (.seq none (.leaf) (.seq none (.block (.loop [(0, .l (.int .i64)), (3, .l (.str))] (.seq none (.seq none (.leaf) (.cond (.leaf) (.leaf))) (.block (.seq none (.leaf) (.leaf)))))) (.seq none (.leaf) (.leaf)))))
theorem tie_laws_markText : (fun (xp0_1 : Int) (h : Heap) (R : Value → Heap → Prop) => denF X0 Try.f111 (bodyOf Try.f111) plan_laws_markText [.l (.int .i64 xp0_1)] h R) = M_laws_markText := by kernel_rfl
theorem calls_laws_markText (xp0_1 : Int) {h : Heap} {R : Value → Heap → Prop} (hm : M_laws_markText xp0_1 h R) : CallsH PP fn_laws_markText [.int .i64 xp0_1] h R :=
  callsH_of X0ok Try.func111 (by kernel_rfl) plan_laws_markText [.l (.int .i64 xp0_1)] (Eq.mpr (congrFun (congrFun (congrFun tie_laws_markText xp0_1) h) R) hm)
end Go.Proofs.Ytjmhahjmbmiepaa.D
