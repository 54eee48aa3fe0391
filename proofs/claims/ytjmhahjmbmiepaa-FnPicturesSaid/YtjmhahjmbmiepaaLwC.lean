/- What a law's argument of bytes reads as. -/
import Derived.Test.YtjmhahjmbmiepaaLwB
import Derived.Test.YtjmhahjmbmiepaaDrA
namespace Go.Proofs.Ytjmhahjmbmiepaa.D
open Go Go.ChangeShapes Go.WideShapes Go.ChangeAt Go.RowKit
set_option linter.unusedVariables false
set_option linter.unusedSimpArgs false
section
variable {H : Type} {enc : TypeId × Value → H} {P : Program} {W : World} {sp : Nat → Bool} {held : Bool} {d : DataW H} {ps : List MemPlace} {t e : TypeId} {a : Option Addr} {n c : Nat}
theorem rdB_of (ht : P.underlying t = some (.slice e)) (he : P.underlying e = some (.int .u8)) (hc : P.cellsOf e = 1) (h : DataW.Trod enc P W 0 sp held t (.slice a n c) d ps) : CodeR W.heap a n := by
  obtain ⟨fuel, hf⟩ := h
  rcases open_ints ht he hc hf with ⟨hcs, hx⟩ | ⟨a', len, cap, zs, hcs, _, hl, hm, hz, hx, hcell, hwz⟩
  · simp [Value.cells] at hcs
    obtain ⟨rfl, rfl, rfl⟩ := hcs
    exact fun i hi => by omega
  · simp [Value.cells] at hcs
    obtain ⟨rfl, rfl, rfl⟩ := hcs
    have hlen : n ≤ zs.length := by rw [hz]; split <;> omega
    intro i hi
    have hs : a'.spot = none := by
      have := World.cell?_spot (hcell 0 (by omega))
      simpa [Addr.add] using this
    have h1 := cell_at hs (hcell i (by omega))
    have hw := hwz (zs.getD i 0) (by rw [getD_of 0 (by omega)]; exact List.getElem_mem _)
    refine ⟨a'.block, a'.off, _, by obtain ⟨b, o, s⟩ := a'; simp only at hs; subst hs; rfl, h1, ?_⟩
    simpa [Lit.wf, IntKind.min, IntKind.max, IntKind.signed, IntKind.bits] using hw
end
end Go.Proofs.Ytjmhahjmbmiepaa.D
