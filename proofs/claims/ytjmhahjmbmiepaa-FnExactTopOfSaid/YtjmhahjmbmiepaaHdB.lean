/- Contracts: words, measurements. -/
import Derived.Test.YtjmhahjmbmiepaaHdA
import Derived.Test.YtjmhahjmbmiepaaMf
import Derived.Test.YtjmhahjmbmiepaaBkB
namespace Go.Proofs.Ytjmhahjmbmiepaa.D
open Go
set_option linter.unusedVariables false
set_option linter.unusedSimpArgs false

def chOk (d : Bool) (c : Int) : Bool := (decide (97 ≤ c) && decide (c ≤ 122)) || (d && (decide (48 ≤ c) && decide (c ≤ 57)))
theorem chF (c : Int) : chOk false c = true ↔ (97 ≤ c ∧ c ≤ 122) := by simp [chOk]
theorem chT (c : Int) : chOk true c = true ↔ ((97 ≤ c ∧ c ≤ 122) ∨ (48 ≤ c ∧ c ≤ 57)) := by simp [chOk]
def wordOk (d : Bool) (s : ByteArray) : Bool := (List.range s.size).all (fun i => chOk d (byteAt s i)) && inR s.size 1 8
def sampleOk (a v : Int) : Bool := inR a 0 1000000000 && inR v (-1000000000) 1000000000
def sayOk (x : SayD) : Bool := wordOk false x.name && sampleOk x.at_ x.value

theorem UpI.next62 {n : Nat} {J : Nat → Heap → Prop} {g g' : Heap} {i : Nat} (hn : n < 4611686018427387904) (hi : i < n) (j : J (i + 1) g) :
    UpI n J [.int .i64 (IntKind.i64.wrap ((i : Int) + 1))] g ∧ UpM n [.int .i64 (IntKind.i64.wrap ((i : Int) + 1))] g < UpM n [.int .i64 (i : Int)] g' := by
  rw [wrap_succ (by omega)]
  refine ⟨⟨i + 1, by omega, rfl, j⟩, ?_⟩
  simp [UpM, ivOf]; omega
theorem arL {a b : Int} {G : Prop} (h : a ≤ b) (k : G) : a ≤ b ∧ G := ⟨h, k⟩
theorem arT {a b : Int} {G : Prop} (h : a < b) (k : G) : a < b ∧ G := ⟨h, k⟩
theorem arN {a b : Int} {G : Prop} (h : a ≠ b) (k : G) : a ≠ b ∧ G := ⟨h, k⟩
section
variable {h : Heap}
theorem word_no {d : Bool} {s : ByteArray} {i : Nat} (hi : i < s.size) (h : chOk d (byteAt s i) = false) : wordOk d s = false := by
  unfold wordOk
  rw [Bool.and_eq_false_iff]
  left
  rw [List.all_eq_false]
  exact ⟨i, by simpa using hi, by simp [h]⟩
theorem word_all {d : Bool} {s : ByteArray} {n : Nat} (hn : n = s.size) (h : ∀ j, j < n → chOk d (byteAt s j) = true) : wordOk d s = inR s.size 1 8 := by
  unfold wordOk
  have : (List.range s.size).all (fun i => chOk d (byteAt s i)) = true := by
    rw [List.all_eq_true]
    intro j hj
    exact h j (by rw [hn]; simpa using hj)
  rw [this, Bool.true_and]
theorem l3Name_ok (s : ByteArray) (d : Bool) (hs : s.size < 4611686018427387904) : CallsH PP fn_spec_l3Name [.string s, .bool d] h fun v h' => v = .bool (wordOk d s) ∧ h' = h := by
  refine calls_spec_l3Name _ _ ?_
  unfold M_spec_l3Name
  refine ⟨UpI s.size fun i g => g = h ∧ ∀ j, j < i → chOk d (byteAt s j) = true, UpM s.size, UpI.start ⟨rfl, fun j hj => by omega⟩, ?_⟩
  intro g y hI
  obtain ⟨i, hi, rfl, rfl, hp⟩ := hI.elim
  (refine br (fun hc => ?_) (fun hc => ?_) <;> (try simp only [decide_eq_true_eq, decide_eq_false_iff_not, beq_iff_eq, bne_iff_ne, ne_eq, Bool.not_eq_true', Bool.not_eq_false', Bool.not_eq_true, Bool.not_eq_false, beq_eq_false_iff_ne, bne_eq_false_iff_eq, Int.not_lt, Int.not_le, gt_iff_lt, ge_iff_le, Decidable.not_not] at hc))
  · have hi : i < s.size := by omega
    have no : chOk d (byteAt s i) = false → Value.bool false = .bool (wordOk d s) := fun hx => by rw [word_no hi hx]
    have yes : chOk d (byteAt s i) = true → ∀ g', _ := fun hx g' => UpI.next62 (g' := g') hs hi (J := fun i g0 => g0 = g ∧ ∀ j, j < i → chOk d (byteAt s j) = true) (g := g) ⟨rfl, fun j hj => by
      by_cases hji : j = i
      · rw [hji]; exact hx
      · exact hp j (by omega)⟩
    simp only [Int.toNat_natCast]
    cases d
    all_goals repeat' (first | (refine br (fun hc => ?_) (fun hc => ?_) <;> (try simp only [decide_eq_true_eq, decide_eq_false_iff_not, beq_iff_eq, bne_iff_ne, ne_eq, Bool.not_eq_true', Bool.not_eq_false', Bool.not_eq_true, Bool.not_eq_false, beq_eq_false_iff_ne, bne_eq_false_iff_eq, Int.not_lt, Int.not_le, gt_iff_lt, ge_iff_le, Decidable.not_not] at hc)) | (first | refine arL (by first | omega | assumption) ?_ | refine arT (by first | omega | assumption) ?_ | refine arN (by first | omega | decide) ?_ | fail) | fail)
    all_goals first
      | contradiction
      | exact ⟨no (by rw [← Bool.not_eq_true, chF]; omega), by first | rfl | trivial⟩
      | exact ⟨no (by rw [← Bool.not_eq_true, chT]; omega), by first | rfl | trivial⟩
      | exact yes (by rw [chF]; omega) _
      | exact yes (by rw [chT]; omega) _
  · have hin : i = s.size := by omega
    refine (l1In_ok _ _ _).mono ?_
    rintro v g' ⟨rfl, rfl⟩
    exact ⟨_, rfl, by rw [word_all hin hp], rfl⟩
theorem isWord_ok (s : ByteArray) (d : Bool) (hs : s.size < 4611686018427387904) : CallsH PP fn_impl_isWord [.string s, .bool d] h fun v h' => v = .bool (wordOk d s) ∧ h' = h := by
  refine calls_impl_isWord _ _ ?_
  unfold M_impl_isWord
  refine ⟨UpI s.size fun i g => g = h ∧ ∀ j, j < i → chOk d (byteAt s j) = true, UpM s.size, UpI.start ⟨rfl, fun j hj => by omega⟩, ?_⟩
  intro g y hI
  obtain ⟨i, hi, rfl, rfl, hp⟩ := hI.elim
  (refine br (fun hc => ?_) (fun hc => ?_) <;> (try simp only [decide_eq_true_eq, decide_eq_false_iff_not, beq_iff_eq, bne_iff_ne, ne_eq, Bool.not_eq_true', Bool.not_eq_false', Bool.not_eq_true, Bool.not_eq_false, beq_eq_false_iff_ne, bne_eq_false_iff_eq, Int.not_lt, Int.not_le, gt_iff_lt, ge_iff_le, Decidable.not_not] at hc))
  · have hi : i < s.size := by omega
    have no : chOk d (byteAt s i) = false → Value.bool false = .bool (wordOk d s) := fun hx => by rw [word_no hi hx]
    have yes : chOk d (byteAt s i) = true → ∀ g', _ := fun hx g' => UpI.next62 (g' := g') hs hi (J := fun i g0 => g0 = g ∧ ∀ j, j < i → chOk d (byteAt s j) = true) (g := g) ⟨rfl, fun j hj => by
      by_cases hji : j = i
      · rw [hji]; exact hx
      · exact hp j (by omega)⟩
    simp only [Int.toNat_natCast]
    cases d
    all_goals repeat' (first | (refine br (fun hc => ?_) (fun hc => ?_) <;> (try simp only [decide_eq_true_eq, decide_eq_false_iff_not, beq_iff_eq, bne_iff_ne, ne_eq, Bool.not_eq_true', Bool.not_eq_false', Bool.not_eq_true, Bool.not_eq_false, beq_eq_false_iff_ne, bne_eq_false_iff_eq, Int.not_lt, Int.not_le, gt_iff_lt, ge_iff_le, Decidable.not_not] at hc)) | (first | refine arL (by first | omega | assumption) ?_ | refine arT (by first | omega | assumption) ?_ | refine arN (by first | omega | decide) ?_ | fail) | fail)
    all_goals first
      | contradiction
      | exact ⟨no (by rw [← Bool.not_eq_true, chF]; omega), by first | rfl | trivial⟩
      | exact ⟨no (by rw [← Bool.not_eq_true, chT]; omega), by first | rfl | trivial⟩
      | exact yes (by rw [chF]; omega) _
      | exact yes (by rw [chT]; omega) _
  · have hin : i = s.size := by omega
    refine (within_ok _ _ _).mono ?_
    rintro v g' ⟨rfl, rfl⟩
    exact ⟨_, rfl, by rw [word_all hin hp], rfl⟩
end
end Go.Proofs.Ytjmhahjmbmiepaa.D
