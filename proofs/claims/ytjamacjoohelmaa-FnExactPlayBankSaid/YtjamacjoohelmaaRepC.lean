/- Loops that count up; fresh memory; marks. -/
import Derived.Test.YtjamacjoohelmaaRepB
namespace Go.Proofs.Ytjamacjoohelmaa.D
open Go
set_option linter.unusedVariables false

def ivOf (vs : List Value) (j : Nat) : Int := match vs[j]? with
  | some (.int _ n) => n
  | _ => 0
theorem wrap_succ {i : Nat} (h : i < 4611686018427387904) : IntKind.i64.wrap ((i : Int) + 1) = ((i + 1 : Nat) : Int) := by
  rw [wrap64_of (by omega) (by omega)]; omega

/-- 'for i := 0; i < n; i++' -/
def UpI (n : Nat) (J : Nat → Heap → Prop) : List Value → Heap → Prop := fun vs g => ∃ i : Nat, i ≤ n ∧ vs = [.int .i64 (i : Int)] ∧ J i g
def UpM (n : Nat) : List Value → Heap → Nat := fun vs _ => n - (ivOf vs 0).toNat
theorem UpI.start {n : Nat} {J : Nat → Heap → Prop} {h : Heap} (j : J 0 h) : UpI n J [.int .i64 0] h := ⟨0, by omega, rfl, j⟩
theorem UpI.elim {n : Nat} {J : Nat → Heap → Prop} {h : Heap} {x : Int} (u : UpI n J [.int .i64 x] h) : ∃ i : Nat, i ≤ n ∧ x = i ∧ J i h := by
  obtain ⟨i, hi, hv, j⟩ := u
  simp at hv
  exact ⟨i, hi, hv, j⟩
theorem UpI.next {n : Nat} {J : Nat → Heap → Prop} {g g' : Heap} {i : Nat} (hn : n < 281474976710656) (hi : i < n) (j : J (i + 1) g) :
    UpI n J [.int .i64 (IntKind.i64.wrap ((i : Int) + 1))] g ∧ UpM n [.int .i64 (IntKind.i64.wrap ((i : Int) + 1))] g < UpM n [.int .i64 (i : Int)] g' := by
  rw [wrap_succ (by omega)]
  refine ⟨⟨i + 1, by omega, rfl, j⟩, ?_⟩
  simp [UpM, ivOf]; omega
/-- The same with a number that goes along. -/
def UpK (n : Nat) (J : Nat → Int → Heap → Prop) : List Value → Heap → Prop := fun vs g => ∃ (i : Nat) (k : Int), i ≤ n ∧ vs = [.int .i64 k, .int .i64 (i : Int)] ∧ J i k g
def UpKM (n : Nat) : List Value → Heap → Nat := fun vs _ => n - (ivOf vs 1).toNat
theorem UpK.start {n : Nat} {J : Nat → Int → Heap → Prop} {h : Heap} {k : Int} (j : J 0 k h) : UpK n J [.int .i64 k, .int .i64 0] h := ⟨0, k, by omega, rfl, j⟩
theorem UpK.elim {n : Nat} {J : Nat → Int → Heap → Prop} {h : Heap} {k x : Int} (u : UpK n J [.int .i64 k, .int .i64 x] h) : ∃ i : Nat, i ≤ n ∧ x = i ∧ J i k h := by
  obtain ⟨i, k', hi, hv, j⟩ := u
  simp at hv
  obtain ⟨rfl, rfl⟩ := hv
  exact ⟨i, hi, rfl, j⟩
theorem UpK.next {n : Nat} {J : Nat → Int → Heap → Prop} {g g' : Heap} {i : Nat} {k k' : Int} (hn : n < 281474976710656) (hi : i < n) (j : J (i + 1) k' g) :
    UpK n J [.int .i64 k', .int .i64 (IntKind.i64.wrap ((i : Int) + 1))] g ∧ UpKM n [.int .i64 k', .int .i64 (IntKind.i64.wrap ((i : Int) + 1))] g < UpKM n [.int .i64 k, .int .i64 (i : Int)] g' := by
  rw [wrap_succ (by omega)]
  refine ⟨⟨i + 1, k', by omega, rfl, j⟩, ?_⟩
  simp [UpKM, ivOf]; omega

theorem lt_of_dec {i n : Nat} (h : decide ((i : Int) < ((n : Nat) : Int)) = true) : i < n := by simpa using h
theorem ge_of_dec {i n : Nat} (h : decide ((i : Int) < ((n : Nat) : Int)) = false) : n ≤ i := by simpa using h

def Fresh (h : Heap) (F : List Nat) : Prop := F.Nodup ∧ ∀ x ∈ F, h.size ≤ x
theorem Fresh.nil (h : Heap) : Fresh h [] := ⟨List.nodup_nil, fun _ h => by cases h⟩
theorem Fresh.old {h h' : Heap} {F S : List Nat} (f : Fresh h' F) (e : Frm S h h') : Fresh h F := ⟨f.1, fun x hx => Nat.le_trans e.1 (f.2 x hx)⟩

/-! ### Marks -/

def mkI : Int → List Int → List Int
  | _, [] => []
  | k, _ :: xs => k :: mkI (k + 1) xs
def mkB : Int → List Bool → List Bool
  | _, [] => []
  | k, _ :: xs => (Int.tmod k 3 == 0) :: mkB (k + 1) xs
def mkL {α : Type} (mk : Int → List α → List α) : Int → List (List α) → List (List α)
  | _, [] => []
  | k, xs :: r => mk k xs :: mkL mk (k + xs.length) r
def total {α : Type} : List (List α) → Nat
  | [] => 0
  | x :: r => x.length + total r

theorem mkI_length : ∀ (xs : List Int) (k : Int), (mkI k xs).length = xs.length
  | [], _ => rfl
  | _ :: xs, k => by simp [mkI, mkI_length xs]
theorem mkB_length : ∀ (xs : List Bool) (k : Int), (mkB k xs).length = xs.length
  | [], _ => rfl
  | _ :: xs, k => by simp [mkB, mkB_length xs]
theorem mkI_get : ∀ (xs : List Int) (k : Int) (i : Nat) (h : i < (mkI k xs).length), (mkI k xs)[i] = k + i
  | [], _, i, h => by simp [mkI] at h
  | _ :: xs, k, 0, h => by simp [mkI]
  | _ :: xs, k, i + 1, h => by
    simp only [mkI, List.getElem_cons_succ]
    rw [mkI_get xs (k + 1) i]
    omega
theorem mkB_get : ∀ (xs : List Bool) (k : Int) (i : Nat) (h : i < (mkB k xs).length), (mkB k xs)[i] = (Int.tmod (k + i) 3 == 0)
  | [], _, i, h => by simp [mkB] at h
  | _ :: xs, k, 0, h => by simp [mkB]
  | _ :: xs, k, i + 1, h => by
    simp only [mkB, List.getElem_cons_succ]
    rw [mkB_get xs (k + 1) i]
    congr 2; omega
theorem mkL_length {α : Type} (mk : Int → List α → List α) : ∀ (xs : List (List α)) (k : Int), (mkL mk k xs).length = xs.length
  | [], _ => rfl
  | _ :: xs, k => by simp [mkL, mkL_length mk xs]
theorem mkL_get {α : Type} (mk : Int → List α → List α) : ∀ (xs : List (List α)) (k : Int) (i : Nat) (h : i < (mkL mk k xs).length) (h' : i < xs.length), (mkL mk k xs)[i] = mk (k + total (xs.take i)) xs[i]
  | [], _, i, h, _ => by simp [mkL] at h
  | x :: xs, k, 0, h, _ => by simp [mkL, total]
  | x :: xs, k, i + 1, h, h' => by
    simp only [mkL, List.getElem_cons_succ]
    rw [mkL_get mk xs (k + x.length) i _ (by simpa using h')]
    congr 1
    simp [total]; omega
theorem total_take {α : Type} : ∀ (xs : List (List α)) (i : Nat) (h : i < xs.length), total (xs.take (i + 1)) = total (xs.take i) + xs[i].length
  | [], i, h => by simp at h
  | x :: xs, 0, h => by simp [total]
  | x :: xs, i + 1, h => by
    simp only [List.take_succ_cons, total, List.getElem_cons_succ]
    rw [total_take xs i (by simpa using h)]; omega
theorem total_le {α : Type} : ∀ (xs : List (List α)) (i : Nat), total (xs.take i) ≤ total xs
  | [], i => by simp [total]
  | x :: xs, 0 => by simp [total]
  | x :: xs, i + 1 => by simp only [List.take_succ_cons, total]; have := total_le xs i; omega
/-- Marked up to i, the rest as it was. -/
def part {α : Type} (ys xs : List α) (i : Nat) : List α := ys.take i ++ xs.drop i
theorem part_zero {α : Type} (ys xs : List α) : part ys xs 0 = xs := by simp [part]
theorem part_all {α : Type} {ys xs : List α} (h : ys.length = xs.length) {i : Nat} (hi : xs.length ≤ i) : part ys xs i = ys := by
  simp [part, List.drop_eq_nil_of_le hi, List.take_of_length_le (h ▸ hi)]
theorem part_length {α : Type} {ys xs : List α} (h : ys.length = xs.length) (i : Nat) : (part ys xs i).length = xs.length := by
  simp [part]; omega
theorem part_set {α : Type} {ys xs : List α} (h : ys.length = xs.length) {i : Nat} (hi : i < xs.length) : (part ys xs i).set i (ys[i]'(h ▸ hi)) = part ys xs (i + 1) := by
  unfold part
  rw [List.set_append_right _ _ (by simp; omega)]
  rw [show i - (ys.take i).length = 0 from by simp; omega]
  have hy : i < ys.length := by omega
  rw [List.drop_eq_getElem_cons hi, List.set_cons_zero, List.take_succ_eq_append_getElem hy, List.append_assoc]
  rfl
theorem part_get {α : Type} {ys xs : List α} (h : ys.length = xs.length) {i : Nat} (hi : i < xs.length) (hp : i < (part ys xs i).length) : (part ys xs i)[i] = xs[i] := by
  have : (part ys xs i)[i]? = some xs[i] := by
    unfold part
    rw [List.getElem?_append_right (by simp; omega)]
    rw [show i - (ys.take i).length = 0 from by simp; omega, List.getElem?_drop]
    simp [hi]
  rw [List.getElem?_eq_getElem hp] at this
  injection this
end Go.Proofs.Ytjamacjoohelmaa.D
