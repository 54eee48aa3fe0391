/- What was there before. -/
import Derived.Test.YtjmhahjmbmiepaaSepE
namespace Go.Proofs.Ytjmhahjmbmiepaa.D
open Go
set_option linter.unusedVariables false
set_option linter.unusedSimpArgs false

def oldA (h0 : Heap) : Asn where
  holds := fun h F => h0.size ≤ h.size ∧ (∀ b, F b ↔ b < h0.size) ∧ ∀ b, b < h0.size → h[b]? = h0[b]?
  frame := by
    rintro h h' F ⟨hs, hf, he⟩ f
    refine ⟨?_, hf, fun b hb => (f b ((hf b).2 hb)).trans (he b hb)⟩
    rcases Nat.lt_or_ge h'.size h0.size with hl | hl
    · have hb : h0.size - 1 < h0.size := by omega
      have e1 := f (h0.size - 1) ((hf _).2 hb)
      have e2 := he (h0.size - 1) hb
      rw [e2, Array.getElem?_eq_getElem hb, Array.getElem?_eq_none (by omega)] at e1
      cases e1
    · exact hl
  lt := by
    rintro h F ⟨hs, hf, he⟩ b hb
    have := (hf b).1 hb
    omega
theorem Own.start (h : Heap) : Own h [oldA h] := ⟨fun b => b < h.size, fun b => b < h.size, fun _ => False, fun b => by simp, fun _ _ h => h, ⟨Nat.le_refl _, fun _ => Iff.rfl, fun _ _ => rfl⟩, fun _ h => h⟩
section
variable {h h0 : Heap} {L : List Asn}
theorem Own.old (H : Own h L) (hm : oldA h0 ∈ L) : Ext h0 h := by
  obtain ⟨F, hs, _, he⟩ := H.get hm
  exact ⟨hs, fun b hb _ => he b hb⟩
theorem Own.wreck {α : Type} {k : Kind α} {xs : List α} {a : Option Addr} {n c : Nat} (H : Own h (slA k xs a n c :: L)) : ∃ F, F.Nodup ∧ Sl k h xs a n c F ∧ ∀ h', Frm F h h' → Own h' L := by
  obtain ⟨F, nd, s, w⟩ := H.slTurn
  exact ⟨F, nd, s, fun h' f => (w k h' [] none 0 0 [] f (Sl.nil k h') List.nodup_nil (by simp)).drop⟩
end
end Go.Proofs.Ytjmhahjmbmiepaa.D
