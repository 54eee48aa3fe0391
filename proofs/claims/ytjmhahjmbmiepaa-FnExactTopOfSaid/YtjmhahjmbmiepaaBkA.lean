/- Banks, as plain lists: what a step does. -/
import Derived.Test.YtjmhahjmbmiepaaSepB
import Derived.Test.YtjmhahjmbmiepaaBnkA
namespace Go.Proofs.Ytjmhahjmbmiepaa.D
open Go
set_option linter.unusedVariables false
set_option linter.unusedSimpArgs false

def inR (x lo hi : Int) : Bool := decide (x ≥ lo) && decide (x ≤ hi)
theorem inR_iff {x lo hi : Int} : inR x lo hi = true ↔ lo ≤ x ∧ x ≤ hi := by simp [inR]
theorem inR_not {x lo hi : Int} : inR x lo hi = false ↔ ¬ (lo ≤ x ∧ x ≤ hi) := by rw [← inR_iff]; simp

/-- The loop that lays a marker on each way of node k, as far as t. -/
def recTo (n k : Nat) (w : List (List Int)) : Nat → List (List Int)
  | 0 => w
  | t + 1 => if t = k then recTo n k w t else (recTo n k w t).set (k * n + t) ((recTo n k w t).getD (k * n + t) [] ++ [0])
def recordD (n : Nat) (x : BankD) (k : Nat) : BankD := { x with kept := x.kept.set k (x.coins.getD k 0), ways := recTo n k x.ways n }
def takeD (n : Nat) (x : BankD) (f t : Nat) (item : Int) : BankD :=
  if item > 0 then
    let y := { x with coins := x.coins.set t (IntKind.i64.wrap (x.coins.getD t 0 + item)) }
    if x.kept.getD t 0 ≥ 0 ∧ (x.heard.getD t []).getD f false = false then { y with found := x.found.set f ((x.found.getD f []).set t (IntKind.i64.wrap ((x.found.getD f []).getD t 0 + item))) } else y
  else
    let y := if x.kept.getD t 0 < 0 then recordD n x t else x
    { y with heard := y.heard.set t ((y.heard.getD t []).set f true) }
def stepD (n : Nat) (x : BankD) (s : StepD) : Option BankD :=
  if inR s.from_ 0 (n - 1) && inR s.to 0 (n - 1) then
    let f := s.from_.toNat
    let t := s.to.toNat
    let way := x.ways.getD (f * n + t) []
    if s.kind = 1 then
      if inR s.many 1 50 && decide (s.many ≤ x.coins.getD f 0) && decide (t ≠ f) && decide (way.length < 39) then
        some { x with coins := x.coins.set f (IntKind.i64.wrap (x.coins.getD f 0 - s.many)), ways := x.ways.set (f * n + t) (way ++ [s.many]) }
      else none
    else if s.kind = 2 then
      if decide (way ≠ []) && decide (s.many = 0) then some (takeD n { x with ways := x.ways.set (f * n + t) (way.drop 1) } f t (way.getD 0 0)) else none
    else if s.kind = 3 then
      if decide (x.kept.getD f 0 < 0) && decide (s.to = 0) && decide (s.many = 0) then some (recordD n x f) else none
    else none
  else none

structure WfB (n i : Nat) (x : BankD) : Prop where
  pos : 1 ≤ n
  le : n ≤ 5
  coins : x.coins.length = n
  ways : x.ways.length = n * n
  kept : x.kept.length = n
  heard : x.heard.length = n
  found : x.found.length = n
  way : ∀ j, (x.ways.getD j []).length ≤ i
  hrow : ∀ j, j < n → (x.heard.getD j []).length = n
  frow : ∀ j, j < n → (x.found.getD j []).length = n
  diag : ∀ j, j < n → x.ways.getD (j * n + j) [] = []

theorem getD_get {α : Type} {xs : List α} {i : Nat} (d : α) (h : i < xs.length) : xs[i] = xs.getD i d := by simp [List.getD, h]
theorem getD_set {α : Type} {xs : List α} {i j : Nat} {y d : α} : (xs.set i y).getD j d = if i = j ∧ i < xs.length then y else xs.getD j d := by
  simp only [List.getD_eq_getElem?_getD, List.getElem?_set]
  by_cases h : i = j
  · subst h
    by_cases hi : i < xs.length
    · simp [hi]
    · simp [hi]
  · simp [h]
theorem recTo_length (n k : Nat) (w : List (List Int)) : ∀ t, (recTo n k w t).length = w.length
  | 0 => rfl
  | t + 1 => by
    unfold recTo
    split
    · exact recTo_length n k w t
    · rw [List.length_set]; exact recTo_length n k w t
theorem idx_inj {n k t j u : Nat} (ht : t < n) (hu : u < n) (h : k * n + t = j * n + u) : k = j ∧ t = u := by
  have h1 : k = j := by
    rcases Nat.lt_trichotomy k j with hh | hh | hh
    · have := Nat.mul_le_mul_right n (show k + 1 ≤ j from hh); rw [Nat.succ_mul] at this; omega
    · exact hh
    · have := Nat.mul_le_mul_right n (show j + 1 ≤ k from hh); rw [Nat.succ_mul] at this; omega
  subst h1
  omega
theorem idx_lt {n k t : Nat} (hk : k < n) (ht : t < n) : k * n + t < n * n := by
  have := Nat.mul_le_mul_right n (show k + 1 ≤ n from hk); rw [Nat.succ_mul] at this; omega
/-- What stands on a way while markers are laid. -/
theorem recTo_get {n k : Nat} {w : List (List Int)} (hw : w.length = n * n) (hk : k < n) : ∀ t, t ≤ n → ∀ j, (recTo n k w t).getD j [] = if ∃ u, u < t ∧ u ≠ k ∧ j = k * n + u then w.getD j [] ++ [0] else w.getD j []
  | 0, _, j => by simp [recTo]
  | t + 1, ht, j => by
    unfold recTo
    have ih := recTo_get hw hk t (by omega)
    split
    · rename_i htk
      subst htk
      rw [ih]
      have : (∃ u, u < t ∧ u ≠ t ∧ j = t * n + u) ↔ ∃ u, u < t + 1 ∧ u ≠ t ∧ j = t * n + u := by
        constructor
        · rintro ⟨u, h1, h2, h3⟩; exact ⟨u, by omega, h2, h3⟩
        · rintro ⟨u, h1, h2, h3⟩; exact ⟨u, by omega, h2, h3⟩
      simp only [this]
    · rename_i htk
      rw [getD_set, recTo_length, hw]
      have hlt := idx_lt hk (show t < n from ht)
      by_cases hj : k * n + t = j
      · subst hj
        have hn : ¬ ∃ u, u < t ∧ u ≠ k ∧ k * n + t = k * n + u := by rintro ⟨u, h1, h2, h3⟩; omega
        rw [if_pos ⟨rfl, hlt⟩, ih, if_neg hn, if_pos ⟨t, by omega, htk, rfl⟩]
      · rw [if_neg (fun h => hj h.1), ih]
        have : (∃ u, u < t ∧ u ≠ k ∧ j = k * n + u) ↔ ∃ u, u < t + 1 ∧ u ≠ k ∧ j = k * n + u := by
          constructor
          · rintro ⟨u, h1, h2, h3⟩; exact ⟨u, by omega, h2, h3⟩
          · rintro ⟨u, h1, h2, h3⟩
            refine ⟨u, ?_, h2, h3⟩
            rcases Nat.lt_or_ge u t with hh | hh
            · exact hh
            · exact absurd (by rw [h3]; congr 1; omega) hj
        simp only [this]

theorem WfB.record {n i k : Nat} {x : BankD} (w : WfB n i x) (hk : k < n) : WfB n (i + 1) (recordD n x k) := by
  obtain ⟨h1, h2, h3, h4, h5, h6, h7, h8, h9, h10, h11⟩ := w
  refine ⟨h1, h2, h3, by simp [recordD, recTo_length, h4], by simp [recordD, h5], h6, h7, fun j => ?_, h9, h10, fun j hj => ?_⟩
  · simp only [recordD]
    rw [recTo_get h4 hk n (Nat.le_refl _)]
    have := h8 j
    split
    · rw [List.length_append]; show _ + 1 ≤ _; omega
    · omega
  · simp only [recordD]
    rw [recTo_get h4 hk n (Nat.le_refl _), if_neg, h11 j hj]
    rintro ⟨u, hu, hne, he⟩
    have := idx_inj hj hu he
    omega
theorem WfB.mono {n i i' : Nat} {x : BankD} (w : WfB n i x) (h : i ≤ i') : WfB n i' x := by
  obtain ⟨h1, h2, h3, h4, h5, h6, h7, h8, h9, h10, h11⟩ := w
  exact ⟨h1, h2, h3, h4, h5, h6, h7, fun j => Nat.le_trans (h8 j) h, h9, h10, h11⟩
theorem WfB.pop {n i f t : Nat} {x : BankD} {y : List Int} (w : WfB n i x) (hf : f < n) (ht : t < n) (hy : y.length ≤ i) (hd : f = t → y = []) : WfB n i { x with ways := x.ways.set (f * n + t) y } := by
  obtain ⟨h1, h2, h3, h4, h5, h6, h7, h8, h9, h10, h11⟩ := w
  refine ⟨h1, h2, h3, by simpa using h4, h5, h6, h7, fun j => ?_, h9, h10, fun j hj => ?_⟩
  · simp only [getD_set]
    split
    · exact hy
    · exact h8 j
  · simp only [getD_set]
    split
    · rename_i h
      have := idx_inj ht hj h.1
      exact hd (by omega)
    · exact h11 j hj
theorem WfB.take {n i f t : Nat} {x : BankD} {item : Int} (w : WfB n i x) (hf : f < n) (ht : t < n) : WfB n (i + 1) (takeD n x f t item) := by
  unfold takeD
  by_cases hi : item > 0
  · simp only [hi, ↓reduceIte]
    obtain ⟨h1, h2, h3, h4, h5, h6, h7, h8, h9, h10, h11⟩ := w
    split
    · refine ⟨h1, h2, by simpa using h3, h4, h5, h6, by simpa using h7, fun j => Nat.le_trans (h8 j) (by omega), h9, fun j hj => ?_, h11⟩
      simp only [getD_set]
      split
      · rename_i h; rw [List.length_set]; exact h10 f hf
      · exact h10 j hj
    · exact ⟨h1, h2, by simpa using h3, h4, h5, h6, h7, fun j => Nat.le_trans (h8 j) (by omega), h9, h10, h11⟩
  · simp only [hi, ↓reduceIte]
    have w' : WfB n (i + 1) (if x.kept.getD t 0 < 0 then recordD n x t else x) := by
      split
      · exact w.record ht
      · exact w.mono (by omega)
    revert w'
    generalize (if x.kept.getD t 0 < 0 then recordD n x t else x) = y
    intro w'
    obtain ⟨h1, h2, h3, h4, h5, h6, h7, h8, h9, h10, h11⟩ := w'
    refine ⟨h1, h2, h3, h4, h5, by simpa using h6, h7, h8, fun j hj => ?_, h10, h11⟩
    simp only [getD_set]
    split
    · rw [List.length_set]; exact h9 t ht
    · exact h9 j hj
theorem WfB.step {n i : Nat} {x y : BankD} {s : StepD} (w : WfB n i x) (h : stepD n x s = some y) : WfB n (i + 1) y := by
  unfold stepD at h
  split at h
  · rename_i hr
    simp only [Bool.and_eq_true, inR_iff] at hr
    obtain ⟨⟨a1, a2⟩, b1, b2⟩ := hr
    have hp := w.pos
    have hf : s.from_.toNat < n := by omega
    have ht : s.to.toNat < n := by omega
    dsimp only at h
    split at h
    · split at h
      · rename_i hc
        simp only [Bool.and_eq_true, inR_iff, decide_eq_true_eq] at hc
        injection h with h
        subst h
        have := (w.mono (show i ≤ i + 1 by omega)).pop hf ht (y := x.ways.getD (s.from_.toNat * n + s.to.toNat) [] ++ [s.many]) (by have := w.way (s.from_.toNat * n + s.to.toNat); rw [List.length_append]; show _ + 1 ≤ _; omega) (fun he => absurd he.symm hc.1.2)
        obtain ⟨h1, h2, h3, h4, h5, h6, h7, h8, h9, h10, h11⟩ := this
        exact ⟨h1, h2, by simpa using h3, h4, h5, h6, h7, h8, h9, h10, h11⟩
      · cases h
    · split at h
      · split at h
        · rename_i hc
          simp only [Bool.and_eq_true, decide_eq_true_eq] at hc
          injection h with h
          subst h
          refine WfB.take (w.pop hf ht ?_ fun he => ?_) hf ht
          · rw [List.length_drop]; have := w.way (s.from_.toNat * n + s.to.toNat); omega
          · rw [he, w.diag _ ht]; rfl
        · cases h
      · split at h
        · split at h
          · injection h with h
            subst h
            exact w.record hf
          · cases h
        · cases h
  · cases h
end Go.Proofs.Ytjmhahjmbmiepaa.D
