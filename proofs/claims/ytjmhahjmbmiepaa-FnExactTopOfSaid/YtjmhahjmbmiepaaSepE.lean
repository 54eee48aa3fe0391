/- Zeros appended. -/
import Derived.Test.YtjmhahjmbmiepaaSepC
namespace Go.Proofs.Ytjmhahjmbmiepaa.D
open Go
set_option linter.unusedVariables false
set_option linter.unusedSimpArgs false

section
variable {α : Type} {k : Kind α} {h : Heap} {L : List Asn} {xs : List α} {a : Option Addr} {n c : Nat}
/-- 'append(s, make(..)...)' onto nothing. -/
theorem Own.appendZ0 {z : α} {zs : List Value} {m : Int} {K : Option Addr → Nat → Nat → Heap → Prop} (H : Own h L) (hz : ∀ h, k.rep h z zs []) (hm : 0 < m) (hmax : m ≤ 1073741824)
    (hk : ∀ a' c' h', Own h' (slA k (List.replicate m.toNat z) a' m.toNat c' :: L) → K a' (0 + m.toNat) c' h') : appendZH h k.tid k.size zs none 0 0 m K := by
  refine ⟨by omega, by simpa using hmax, fun _ => rfl, fun hle => by omega, fun _ => ⟨[], ⟨by simp, trivial⟩, fun nc hnc => ?_⟩⟩
  have hl := k.len (hz h)
  have := Sl.made k h (c := nc) (post := repl zs (nc - (0 + m.toNat))) (els_repl (h := h) hz m.toNat) (by rw [repl_length, hl, List.length_replicate, Nat.zero_add]; exact Nat.le_refl _) (by simpa using hnc) (by simp; omega)
  rw [List.length_replicate] at this
  exact hk _ _ _ (H.slNew (Frm.new _ _ _ _) this ⟨List.nodup_cons.2 ⟨by simp, List.nodup_nil⟩, fun x hx => by simp at hx; omega⟩)
end
end Go.Proofs.Ytjmhahjmbmiepaa.D
