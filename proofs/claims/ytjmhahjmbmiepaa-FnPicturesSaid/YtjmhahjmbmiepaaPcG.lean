/- Sums over ranges; what stands before a marker. -/
import Derived.Test.YtjmhahjmbmiepaaBkA
import Derived.Test.YtjmhahjmbmiepaaBkH
namespace Go.Proofs.Ytjmhahjmbmiepaa.D
open Go
set_option linter.unusedVariables false
set_option linter.unusedSimpArgs false

def sumN (f : Nat → Int) : Nat → Int
  | 0 => 0
  | n + 1 => sumN f n + f n
theorem sumN_congr {f g : Nat → Int} : ∀ {n : Nat}, (∀ j, j < n → g j = f j) → sumN g n = sumN f n
  | 0, _ => rfl
  | n + 1, h => by unfold sumN; rw [sumN_congr fun j hj => h j (by omega), h n (by omega)]
theorem sumN_upd {f g : Nat → Int} {k : Nat} : ∀ {n : Nat}, k < n → (∀ j, j < n → j ≠ k → g j = f j) → sumN g n = sumN f n - f k + g k
  | 0, hk, _ => by omega
  | n + 1, hk, h => by
    unfold sumN
    by_cases hn : k = n
    · subst hn
      rw [sumN_congr fun j hj => h j (by omega) (by omega)]
      omega
    · rw [sumN_upd (by omega) fun j hj => h j (by omega), h n (by omega) (by omega)]
      omega
theorem sumN_nonneg {f : Nat → Int} : ∀ {n : Nat}, (∀ j, j < n → 0 ≤ f j) → 0 ≤ sumN f n
  | 0, _ => Int.le_refl _
  | n + 1, h => by
    unfold sumN
    have := sumN_nonneg (n := n) fun j hj => h j (by omega)
    have := h n (by omega)
    omega
theorem sumN_le {f : Nat → Int} {k : Nat} : ∀ {n : Nat}, k < n → (∀ j, j < n → 0 ≤ f j) → f k ≤ sumN f n
  | 0, hk, _ => by omega
  | n + 1, hk, h => by
    unfold sumN
    by_cases hn : k = n
    · subst hn
      have := sumN_nonneg (n := k) fun j hj => h j (by omega)
      omega
    · have := sumN_le (f := f) (k := k) (n := n) (by omega) fun j hj => h j (by omega)
      have := h n (by omega)
      omega
def sum2 (f : Nat → Nat → Int) (n : Nat) : Int := sumN (fun i => sumN (f i) n) n
theorem sum2_congr {f g : Nat → Nat → Int} {n : Nat} (h : ∀ i j, i < n → j < n → g i j = f i j) : sum2 g n = sum2 f n :=
  sumN_congr fun i hi => sumN_congr fun j hj => h i j hi hj
theorem sum2_upd {f g : Nat → Nat → Int} {a b n : Nat} (ha : a < n) (hb : b < n) (h : ∀ i j, i < n → j < n → ¬ (i = a ∧ j = b) → g i j = f i j) : sum2 g n = sum2 f n - f a b + g a b := by
  unfold sum2
  rw [sumN_upd (f := fun i => sumN (f i) n) (g := fun i => sumN (g i) n) ha fun i hi hne => sumN_congr fun j hj => h i j hi hj fun hh => hne hh.1]
  rw [sumN_upd (f := f a) (g := g a) hb fun j hj hne => h a j ha hj fun hh => hne hh.2]
  omega
theorem sum2_nonneg {f : Nat → Nat → Int} {n : Nat} (h : ∀ i j, i < n → j < n → 0 ≤ f i j) : 0 ≤ sum2 f n := sumN_nonneg fun i hi => sumN_nonneg fun j hj => h i j hi hj
theorem sum2_le {f : Nat → Nat → Int} {a b n : Nat} (ha : a < n) (hb : b < n) (h : ∀ i j, i < n → j < n → 0 ≤ f i j) : f a b ≤ sum2 f n :=
  Int.le_trans (sumN_le hb fun j hj => h a j ha hj) (sumN_le (f := fun i => sumN (f i) n) ha fun i hi => sumN_nonneg fun j hj => h i j hi hj)

/-- The sum of what stands before the first marker. -/
def pre : List Int → Int
  | [] => 0
  | x :: l => if x = 0 then 0 else x + pre l
def lsum : List Int → Int
  | [] => 0
  | x :: l => x + lsum l
theorem lsum_append : ∀ (l r : List Int), lsum (l ++ r) = lsum l + lsum r
  | [], r => by simp [lsum]
  | x :: l, r => by simp only [List.cons_append, lsum, lsum_append l r]; omega
theorem lsum_nonneg : ∀ {l : List Int}, (∀ m ∈ l, 0 ≤ m) → 0 ≤ lsum l
  | [], _ => Int.le_refl _
  | x :: l, h => by
    have := h x (by simp)
    have := lsum_nonneg (l := l) fun m hm => h m (by simp [hm])
    simp only [lsum]; omega
theorem pre_no : ∀ {l : List Int} (r : List Int), l.count 0 = 0 → pre (l ++ r) = lsum l + pre r
  | [], r, _ => by simp [lsum]
  | x :: l, r, h => by
    rw [List.count_cons] at h
    have hx : x ≠ 0 := by rintro rfl; simp at h
    have hl : l.count 0 = 0 := by omega
    simp only [List.cons_append, pre, if_neg hx, lsum, pre_no r hl]; omega
theorem pre_no' {l : List Int} (h : l.count 0 = 0) : pre l = lsum l := by
  have := pre_no [] h
  simpa [pre] using this
theorem pre_yes : ∀ {l : List Int} (r : List Int), l.count 0 ≠ 0 → pre (l ++ r) = pre l
  | [], r, h => by simp at h
  | x :: l, r, h => by
    by_cases hx : x = 0
    · subst hx; simp [pre]
    · have hl : l.count 0 ≠ 0 := by
        rw [List.count_cons] at h
        have : (x == 0) = false := by simpa using hx
        rw [this] at h
        simpa using h
      simp only [List.cons_append, pre, if_neg hx, pre_yes r hl]
theorem pre_nonneg : ∀ {l : List Int}, (∀ m ∈ l, 0 ≤ m) → 0 ≤ pre l
  | [], _ => Int.le_refl _
  | x :: l, h => by
    have := h x (by simp)
    have := pre_nonneg (l := l) fun m hm => h m (by simp [hm])
    simp only [pre]; split <;> omega

/-! ### A bank, point by point -/

def BankD.c (x : BankD) (k : Nat) : Int := x.coins.getD k 0
def BankD.w (x : BankD) (n f t : Nat) : List Int := x.ways.getD (f * n + t) []
def BankD.kp (x : BankD) (k : Nat) : Int := x.kept.getD k 0
def BankD.hd (x : BankD) (t f : Nat) : Bool := (x.heard.getD t []).getD f false
def BankD.fd (x : BankD) (f t : Nat) : Int := (x.found.getD f []).getD t 0

/-- What holds after each step of a play that began with T coins. -/
structure Inv (n : Nat) (T : Int) (x : BankD) : Prop where
  wf : ∃ i, WfB n i x
  T0 : 0 ≤ T ∧ T ≤ 250
  c0 : ∀ k, k < n → 0 ≤ x.c k
  it : ∀ f t, f < n → t < n → ∀ m ∈ x.w n f t, 0 ≤ m ∧ m ≤ 50
  zero : ∀ f t, f < n → t < n → (x.w n f t).count 0 = if x.kp f ≥ 0 ∧ f ≠ t ∧ x.hd t f = false then 1 else 0
  hdk : ∀ f t, f < n → t < n → x.hd t f = true → x.kp f ≥ 0 ∧ x.kp t ≥ 0 ∧ f ≠ t
  fd0 : ∀ f t, f < n → t < n → 0 ≤ x.fd f t ∧ (x.fd f t ≠ 0 → x.kp t ≥ 0 ∧ f ≠ t)
  kp1 : ∀ k, k < n → x.kp k ≥ -1
  len : ∀ f t, f < n → t < n → (x.w n f t).length ≤ 39 + (if x.kp f ≥ 0 then 1 else 0)
  tot : sumN x.c n + sum2 (fun f t => lsum (x.w n f t)) n = T
  vis : sumN (fun k => if x.kp k ≥ 0 then x.kp k else x.c k) n + sum2 (fun f t => if x.hd t f = true then x.fd f t else x.fd f t + pre (x.w n f t)) n = T
end Go.Proofs.Ytjmhahjmbmiepaa.D

namespace Go.Proofs.Ytjmhahjmbmiepaa.D
open Go
set_option linter.unusedVariables false
set_option linter.unusedSimpArgs false

section
variable {n : Nat} {T : Int} {x : BankD}

theorem Inv.c_le (v : Inv n T x) {k : Nat} (hk : k < n) : x.c k ≤ T := by
  have h1 := sumN_le (f := x.c) hk v.c0
  have h2 := sum2_nonneg (f := fun f t => lsum (x.w n f t)) (n := n) fun i j hi hj => lsum_nonneg fun m hm => (v.it i j hi hj m hm).1
  have := v.tot
  omega
theorem Inv.term0 (v : Inv n T x) : ∀ k, k < n → 0 ≤ (fun k => if x.kp k ≥ 0 then x.kp k else x.c k) k := by
  intro k hk
  have := v.c0 k hk
  dsimp only
  split <;> omega
theorem Inv.ch0 (v : Inv n T x) : ∀ i j, i < n → j < n → 0 ≤ (fun f t => if x.hd t f = true then x.fd f t else x.fd f t + pre (x.w n f t)) i j := by
  intro i j hi hj
  have h1 := (v.fd0 i j hi hj).1
  have h2 := pre_nonneg (l := x.w n i j) fun m hm => (v.it i j hi hj m hm).1
  dsimp only
  split <;> omega
theorem Inv.kp_le (v : Inv n T x) {k : Nat} (hk : k < n) : x.kp k ≤ T := by
  have h1 := sumN_le hk v.term0
  have h2 := sum2_nonneg v.ch0
  have := v.vis
  have h0 := v.T0
  split at h1 <;> omega
theorem Inv.fd_le (v : Inv n T x) {f t : Nat} (hf : f < n) (ht : t < n) : x.fd f t ≤ T := by
  have h1 := sum2_le hf ht v.ch0
  have h2 := sumN_nonneg v.term0
  have h3 := pre_nonneg (l := x.w n f t) fun m hm => (v.it f t hf ht m hm).1
  have := v.vis
  split at h1 <;> omega

theorem w_set {ways : List (List Int)} {f t f' t' : Nat} {l : List Int} (hl : ways.length = n * n) (hf : f < n) (ht : t < n) (hf' : f' < n) (ht' : t' < n) :
    (ways.set (f * n + t) l).getD (f' * n + t') [] = if f = f' ∧ t = t' then l else ways.getD (f' * n + t') [] := by
  rw [getD_set, hl]
  by_cases h : f = f' ∧ t = t'
  · obtain ⟨rfl, rfl⟩ := h
    rw [if_pos ⟨rfl, idx_lt hf ht⟩, if_pos ⟨rfl, rfl⟩]
  · rw [if_neg h, if_neg]
    rintro ⟨he, _⟩
    exact h (idx_inj ht ht' he)
theorem c_set {l : List Int} {k j : Nat} {y : Int} (hl : l.length = n) (hk : k < n) : (l.set k y).getD j 0 = if k = j then y else l.getD j 0 := by
  rw [getD_set, hl]
  by_cases h : k = j
  · rw [if_pos ⟨h, hk⟩, if_pos h]
  · rw [if_neg (fun hh => h hh.1), if_neg h]

/-- A node records its state. -/
theorem Inv.record (v : Inv n T x) {k : Nat} (hk : k < n) (hkp : x.kp k < 0) : Inv n T (recordD n x k) := by
  obtain ⟨i, wf⟩ := v.wf
  have hck := v.c0 k hk
  have ekp : ∀ j, (recordD n x k).kp j = if k = j then x.c k else x.kp j := fun j => by
    unfold recordD BankD.kp BankD.c; dsimp only; rw [c_set wf.kept hk]
  have ec : ∀ j, (recordD n x k).c j = x.c j := fun j => rfl
  have ehd : ∀ t f, (recordD n x k).hd t f = x.hd t f := fun t f => rfl
  have efd : ∀ f t, (recordD n x k).fd f t = x.fd f t := fun f t => rfl
  have ew : ∀ f t, f < n → t < n → (recordD n x k).w n f t = if f = k ∧ t ≠ k then x.w n f t ++ [0] else x.w n f t := fun f t hf ht => by
    unfold recordD BankD.w; dsimp only
    rw [recTo_get wf.ways hk n (Nat.le_refl _)]
    by_cases h : f = k ∧ t ≠ k
    · rw [if_pos h, if_pos ⟨t, ht, h.2, by rw [h.1]⟩]
    · rw [if_neg h, if_neg]
      rintro ⟨u, hu, hne, he⟩
      obtain ⟨rfl, rfl⟩ := idx_inj ht hu he
      exact h ⟨rfl, hne⟩
  have nohd : ∀ t, t < n → x.hd t k = false := fun t ht => by
    cases hh : x.hd t k with
    | false => rfl
    | true => have := (v.hdk k t hk ht hh).1; omega
  have nozero : ∀ t, t < n → (x.w n k t).count 0 = 0 := fun t ht => by
    rw [v.zero k t hk ht, if_neg (fun h => by omega)]
  refine ⟨⟨_, wf.record hk⟩, v.T0, fun j hj => by rw [ec]; exact v.c0 j hj, fun f t hf ht m hm => ?_, fun f t hf ht => ?_, fun f t hf ht h => ?_, fun f t hf ht => ?_, fun j hj => ?_, fun f t hf ht => ?_, ?_, ?_⟩
  · rw [ew f t hf ht] at hm
    split at hm
    · rcases List.mem_append.1 hm with hm | hm
      · exact v.it f t hf ht m hm
      · simp at hm; omega
    · exact v.it f t hf ht m hm
  · rw [ew f t hf ht, ekp, ehd]
    by_cases hfk : f = k
    · subst hfk
      rw [if_pos rfl, nohd t ht]
      by_cases htk : t = f
      · subst htk
        rw [if_neg (by simp), nozero t ht, if_neg (by simp)]
      · rw [if_pos ⟨rfl, htk⟩, List.count_append, nozero t ht, if_pos ⟨by omega, fun h => htk h.symm, rfl⟩]
        rfl
    · rw [if_neg (show ¬ (f = k ∧ t ≠ k) from fun h => hfk h.1), if_neg (show ¬ k = f from fun h => hfk h.symm)]
      exact v.zero f t hf ht
  · rw [ehd] at h
    have := v.hdk f t hf ht h
    rw [ekp, ekp]
    refine ⟨?_, ?_, this.2.2⟩ <;> split <;> omega
  · rw [efd]
    refine ⟨(v.fd0 f t hf ht).1, fun h => ?_⟩
    have := (v.fd0 f t hf ht).2 h
    rw [ekp]
    refine ⟨?_, this.2⟩
    split <;> omega
  · rw [ekp]
    have := v.kp1 j hj
    split <;> omega
  · rw [ew f t hf ht, ekp]
    have := v.len f t hf ht
    by_cases hfk : f = k
    · subst hfk
      rw [if_neg (show ¬ x.kp f ≥ 0 by omega)] at this
      rw [if_pos rfl, if_pos (show x.c f ≥ 0 by omega)]
      split
      · rw [List.length_append]; simp; omega
      · omega
    · rw [if_neg (show ¬ (f = k ∧ t ≠ k) from fun h => hfk h.1), if_neg (show ¬ k = f from fun h => hfk h.symm)]
      exact this
  · rw [← v.tot]
    congr 1
    refine sum2_congr fun f t hf ht => ?_
    rw [ew f t hf ht]
    split
    · rw [lsum_append]; simp [lsum]
    · rfl
  · rw [← v.vis]
    congr 1
    · refine sumN_congr fun j hj => ?_
      rw [ekp, ec]
      by_cases hj : k = j
      · subst hj
        rw [if_pos rfl, if_pos (show x.c k ≥ 0 by omega), if_neg (show ¬ x.kp k ≥ 0 by omega)]
      · rw [if_neg hj]
    · refine sum2_congr fun f t hf ht => ?_
      rw [ew f t hf ht, ehd, efd]
      split
      · rfl
      · by_cases h : f = k ∧ t ≠ k
        · obtain ⟨rfl, h⟩ := h
          rw [if_pos ⟨rfl, h⟩, pre_no _ (nozero t ht), pre_no' (nozero t ht)]
          simp [pre]
        · rw [if_neg h]
end
end Go.Proofs.Ytjmhahjmbmiepaa.D

namespace Go.Proofs.Ytjmhahjmbmiepaa.D
open Go
set_option linter.unusedVariables false
set_option linter.unusedSimpArgs false

section
variable {n : Nat} {T : Int} {x : BankD}

theorem Inv.give (v : Inv n T x) {f t : Nat} {m : Int} (hf : f < n) (ht : t < n) (h1 : 1 ≤ m ∧ m ≤ 50) (h2 : m ≤ x.c f) (h3 : t ≠ f) (h4 : (x.w n f t).length < 39) :
    Inv n T { x with coins := x.coins.set f (IntKind.i64.wrap (x.c f - m)), ways := x.ways.set (f * n + t) (x.w n f t ++ [m]) } := by
  obtain ⟨i, wf⟩ := v.wf
  have hle := v.c_le hf
  have hT := v.T0
  have hw : IntKind.i64.wrap (x.c f - m) = x.c f - m := wrap64_of (by omega) (by omega)
  rw [hw]
  generalize hy : ({ x with coins := x.coins.set f (x.c f - m), ways := x.ways.set (f * n + t) (x.w n f t ++ [m]) } : BankD) = y
  have ec : ∀ j, y.c j = if f = j then x.c f - m else x.c j := fun j => by subst hy; exact c_set wf.coins hf
  have ew : ∀ f' t', f' < n → t' < n → y.w n f' t' = if f = f' ∧ t = t' then x.w n f t ++ [m] else x.w n f' t' := fun f' t' hf' ht' => by subst hy; exact w_set wf.ways hf ht hf' ht'
  have ekp : ∀ j, y.kp j = x.kp j := fun j => by subst hy; rfl
  have ehd : ∀ a b, y.hd a b = x.hd a b := fun a b => by subst hy; rfl
  have efd : ∀ a b, y.fd a b = x.fd a b := fun a b => by subst hy; rfl
  have wfy : WfB n (i + 40) y := by
    have := (wf.mono (show i ≤ i + 40 by omega)).pop hf ht (y := x.w n f t ++ [m]) (by rw [List.length_append]; show _ + 1 ≤ _; omega) (fun e => absurd e.symm h3)
    subst hy
    obtain ⟨a1, a2, a3, a4, a5, a6, a7, a8, a9, a10, a11⟩ := this
    exact ⟨a1, a2, by simpa using a3, a4, a5, a6, a7, a8, a9, a10, a11⟩
  have hz := v.zero f t hf ht
  have hmz : List.count 0 [m] = 0 := by rw [List.count_eq_zero]; simp; omega
  refine ⟨⟨_, wfy⟩, hT, fun j hj => ?_, fun f' t' hf' ht' m' hm => ?_, fun f' t' hf' ht' => ?_, fun f' t' hf' ht' h => ?_, fun f' t' hf' ht' => ?_, fun j hj => ?_, fun f' t' hf' ht' => ?_, ?_, ?_⟩
  · rw [ec]
    have := v.c0 j hj
    split <;> omega
  · rw [ew f' t' hf' ht'] at hm
    split at hm
    · rcases List.mem_append.1 hm with hm | hm
      · exact v.it f t hf ht m' hm
      · simp at hm; omega
    · exact v.it f' t' hf' ht' m' hm
  · rw [ew f' t' hf' ht', ekp, ehd]
    split
    · rename_i h
      obtain ⟨rfl, rfl⟩ := h
      rw [List.count_append, hmz, hz]
      rfl
    · exact v.zero f' t' hf' ht'
  · rw [ehd] at h; rw [ekp, ekp]; exact v.hdk f' t' hf' ht' h
  · rw [efd, ekp]; exact v.fd0 f' t' hf' ht'
  · rw [ekp]; exact v.kp1 j hj
  · rw [ew f' t' hf' ht', ekp]
    split
    · rename_i h
      obtain ⟨rfl, rfl⟩ := h
      rw [List.length_append]
      show _ + 1 ≤ _
      omega
    · exact v.len f' t' hf' ht'
  · rw [← v.tot]
    have e1 := sumN_upd (f := x.c) (g := y.c) hf fun j hj hne => by rw [ec, if_neg (show ¬ f = j from fun h => hne h.symm)]
    have e2 := sum2_upd (f := fun f t => lsum (x.w n f t)) (g := fun f t => lsum (y.w n f t)) hf ht fun a b ha hb hne => by
      rw [ew a b ha hb, if_neg (show ¬ (f = a ∧ t = b) from fun h => hne ⟨h.1.symm, h.2.symm⟩)]
    rw [e1, e2, ew f t hf ht, if_pos (show f = f ∧ t = t from ⟨rfl, rfl⟩), ec, if_pos (show f = f from rfl), lsum_append]
    simp only [lsum]
    omega
  · rw [← v.vis]
    have e2 := sum2_upd (f := fun f t => if x.hd t f = true then x.fd f t else x.fd f t + pre (x.w n f t)) (g := fun f t => if y.hd t f = true then y.fd f t else y.fd f t + pre (y.w n f t)) hf ht fun a b ha hb hne => by
      rw [ew a b ha hb, if_neg (show ¬ (f = a ∧ t = b) from fun h => hne ⟨h.1.symm, h.2.symm⟩), ehd, efd]
    have e1 := sumN_upd (f := fun k => if x.kp k ≥ 0 then x.kp k else x.c k) (g := fun k => if y.kp k ≥ 0 then y.kp k else y.c k) hf fun j hj hne => by
      rw [ec, if_neg (show ¬ f = j from fun h => hne h.symm), ekp]
    rw [e1, e2, ew f t hf ht, if_pos (show f = f ∧ t = t from ⟨rfl, rfl⟩), ec, if_pos (show f = f from rfl), ekp, ehd, efd]
    by_cases hk : x.kp f ≥ 0
    · rw [if_pos hk, if_pos hk]
      cases hh : x.hd t f with
      | true => simp
      | false =>
        rw [if_pos ⟨hk, fun h => h3 h.symm, hh⟩] at hz
        rw [pre_yes _ (by omega)]
        simp
    · rw [if_neg hk, if_neg hk]
      have hh : x.hd t f = false := by
        cases hh : x.hd t f with
        | false => rfl
        | true => exact absurd (v.hdk f t hf ht hh).1 hk
      rw [if_neg (fun h => hk h.1)] at hz
      rw [hh, pre_no _ hz, pre_no' hz]
      have hm0 : m ≠ 0 := by omega
      simp [pre, hm0]
      omega
end
end Go.Proofs.Ytjmhahjmbmiepaa.D

namespace Go.Proofs.Ytjmhahjmbmiepaa.D
open Go
set_option linter.unusedVariables false
set_option linter.unusedSimpArgs false

section
variable {n : Nat} {T : Int} {x : BankD}

/-- A marker is taken where the taker has recorded. -/
theorem Inv.mark (v : Inv n T x) {f t : Nat} {rest : List Int} {y : BankD} (hf : f < n) (ht : t < n) (hkt : x.kp t ≥ 0) (hw : x.w n f t = 0 :: rest) (wfy : ∃ i, WfB n i y)
    (ec : ∀ j, j < n → y.c j = x.c j) (ekp : ∀ j, j < n → y.kp j = x.kp j) (ew : ∀ a b, a < n → b < n → y.w n a b = if f = a ∧ t = b then rest else x.w n a b)
    (ehd : ∀ a b, a < n → b < n → y.hd b a = if f = a ∧ t = b then true else x.hd b a) (efd : ∀ a b, a < n → b < n → y.fd a b = x.fd a b) : Inv n T y := by
  have hz := v.zero f t hf ht
  rw [hw] at hz
  have hc : x.kp f ≥ 0 ∧ f ≠ t ∧ x.hd t f = false := by
    by_cases h : x.kp f ≥ 0 ∧ f ≠ t ∧ x.hd t f = false
    · exact h
    · rw [if_neg h] at hz; simp at hz
  rw [if_pos hc] at hz
  have hr : rest.count 0 = 0 := by simpa using hz
  refine ⟨wfy, v.T0, fun j hj => by rw [ec j hj]; exact v.c0 j hj, fun a b ha hb m hm => ?_, fun a b ha hb => ?_, fun a b ha hb h => ?_, fun a b ha hb => ?_, fun j hj => by rw [ekp j hj]; exact v.kp1 j hj, fun a b ha hb => ?_, ?_, ?_⟩
  · rw [ew a b ha hb] at hm
    split at hm
    · exact v.it f t hf ht m (by rw [hw]; simp [hm])
    · exact v.it a b ha hb m hm
  · rw [ew a b ha hb, ekp a ha, ehd a b ha hb]
    by_cases h : f = a ∧ t = b
    · rw [if_pos h, if_pos h, hr, if_neg (by simp)]
    · rw [if_neg h, if_neg h]; exact v.zero a b ha hb
  · rw [ehd a b ha hb] at h
    rw [ekp a ha, ekp b hb]
    by_cases h' : f = a ∧ t = b
    · obtain ⟨rfl, rfl⟩ := h'
      exact ⟨hc.1, hkt, hc.2.1⟩
    · rw [if_neg h'] at h; exact v.hdk a b ha hb h
  · rw [efd a b ha hb, ekp b hb]; exact v.fd0 a b ha hb
  · rw [ew a b ha hb, ekp a ha]
    by_cases h : f = a ∧ t = b
    · have := v.len f t hf ht
      rw [hw] at this
      rw [if_pos h, ← h.1]
      simp only [List.length_cons] at this
      omega
    · rw [if_neg h]; exact v.len a b ha hb
  · rw [← v.tot, sumN_congr ec]
    have e2 := sum2_upd (f := fun f t => lsum (x.w n f t)) (g := fun f t => lsum (y.w n f t)) hf ht fun a b ha hb hne => by
      rw [ew a b ha hb, if_neg (show ¬ (f = a ∧ t = b) from fun h => hne ⟨h.1.symm, h.2.symm⟩)]
    rw [e2, ew f t hf ht, if_pos (show f = f ∧ t = t from ⟨rfl, rfl⟩), hw]
    simp only [lsum]
    omega
  · rw [← v.vis]
    have e1 := sumN_congr (n := n) (f := fun k => if x.kp k ≥ 0 then x.kp k else x.c k) (g := fun k => if y.kp k ≥ 0 then y.kp k else y.c k) fun j hj => by rw [ekp j hj, ec j hj]
    have e2 := sum2_congr (n := n) (f := fun f t => if x.hd t f = true then x.fd f t else x.fd f t + pre (x.w n f t)) (g := fun f t => if y.hd t f = true then y.fd f t else y.fd f t + pre (y.w n f t)) fun a b ha hb => by
      rw [ew a b ha hb, ehd a b ha hb, efd a b ha hb]
      by_cases h : f = a ∧ t = b
      · obtain ⟨rfl, rfl⟩ := h
        rw [if_pos (show f = f ∧ t = t from ⟨rfl, rfl⟩), hc.2.2, hw]
        simp [pre]
      · rw [if_neg h, if_neg h]
    rw [e1, e2]

theorem Inv.take (v : Inv n T x) {f t : Nat} {item : Int} {rest : List Int} (hf : f < n) (ht : t < n) (hw : x.w n f t = item :: rest) :
    Inv n T (takeD n { x with ways := x.ways.set (f * n + t) rest } f t item) := by
  obtain ⟨i, wf⟩ := v.wf
  have hT := v.T0
  have hit := v.it f t hf ht item (by rw [hw]; simp)
  have hlen := v.len f t hf ht
  have hft : f ≠ t := by
    rintro rfl
    have : x.w n f f = [] := wf.diag f hf
    rw [this] at hw; cases hw
  have wfp := wf.pop hf ht (y := rest) (by have := wf.way (f * n + t); have e : x.ways.getD (f * n + t) [] = item :: rest := hw; rw [e] at this; simp at this; omega) (fun e => absurd e hft)
  have wfy := wfp.take (item := item) hf ht
  have ew0 : ∀ a b, a < n → b < n → ({ x with ways := x.ways.set (f * n + t) rest } : BankD).w n a b = if f = a ∧ t = b then rest else x.w n a b := fun a b ha hb => w_set wf.ways hf ht ha hb
  by_cases hi : item > 0
  · have hct := v.c_le ht
    have hc0 := v.c0 t ht
    have hfd := v.fd_le hf ht
    have hfd0 := (v.fd0 f t hf ht).1
    have hw1 : IntKind.i64.wrap (x.c t + item) = x.c t + item := wrap64_of (by omega) (by omega)
    have hw2 : IntKind.i64.wrap (x.fd f t + item) = x.fd f t + item := wrap64_of (by omega) (by omega)
    generalize hy : takeD n { x with ways := x.ways.set (f * n + t) rest } f t item = y at wfy
    have hy' : y = if x.kp t ≥ 0 ∧ x.hd t f = false then { x with ways := x.ways.set (f * n + t) rest, coins := x.coins.set t (x.c t + item), found := x.found.set f ((x.found.getD f []).set t (x.fd f t + item)) } else { x with ways := x.ways.set (f * n + t) rest, coins := x.coins.set t (x.c t + item) } := by
      rw [← hy, ← hw1, ← hw2]
      unfold takeD
      rw [if_pos hi]
      rfl
    have ec : ∀ j, y.c j = if t = j then x.c t + item else x.c j := fun j => by
      rw [hy']
      split <;> exact c_set wf.coins ht
    have ew : ∀ a b, a < n → b < n → y.w n a b = if f = a ∧ t = b then rest else x.w n a b := fun a b ha hb => by
      rw [hy', ← ew0 a b ha hb]
      split <;> rfl
    have ekp : ∀ j, y.kp j = x.kp j := fun j => by rw [hy']; split <;> rfl
    have ehd : ∀ a b, y.hd a b = x.hd a b := fun a b => by rw [hy']; split <;> rfl
    have efd : ∀ a b, a < n → b < n → y.fd a b = if (f = a ∧ t = b) ∧ x.kp t ≥ 0 ∧ x.hd t f = false then x.fd f t + item else x.fd a b := fun a b ha hb => by
      rw [hy']
      by_cases hcond : x.kp t ≥ 0 ∧ x.hd t f = false
      · rw [if_pos hcond]
        show ((x.found.set f ((x.found.getD f []).set t (x.fd f t + item))).getD a []).getD b 0 = _
        rw [getD_set, wf.found]
        by_cases hfa : f = a
        · subst hfa
          rw [if_pos ⟨rfl, hf⟩, c_set (wf.frow f hf) ht]
          by_cases htb : t = b
          · subst htb; rw [if_pos rfl, if_pos ⟨⟨rfl, rfl⟩, hcond⟩]
          · rw [if_neg htb, if_neg (fun h => htb h.1.2)]; rfl
        · rw [if_neg (fun h => hfa h.1), if_neg (fun h => hfa h.1.1)]; rfl
      · rw [if_neg hcond, if_neg (fun h => hcond h.2)]; rfl
    have hz := v.zero f t hf ht
    rw [hw] at hz
    have hcnt : (item :: rest).count 0 = rest.count 0 := by
      rw [List.count_cons]
      have : (item == 0) = false := by simp; omega
      rw [this]; simp
    rw [hcnt] at hz
    have hpi : pre (item :: rest) = item + pre rest := by simp only [pre, if_neg (show ¬ item = 0 by omega)]
    refine ⟨⟨_, wfy⟩, hT, fun j hj => ?_, fun a b ha hb m hm => ?_, fun a b ha hb => ?_, fun a b ha hb h => ?_, fun a b ha hb => ?_, fun j hj => by rw [ekp j]; exact v.kp1 j hj, fun a b ha hb => ?_, ?_, ?_⟩
    · rw [ec]
      have := v.c0 j hj
      split <;> omega
    · rw [ew a b ha hb] at hm
      split at hm
      · exact v.it f t hf ht m (by rw [hw]; simp [hm])
      · exact v.it a b ha hb m hm
    · rw [ew a b ha hb, ekp, ehd]
      by_cases h : f = a ∧ t = b
      · obtain ⟨rfl, rfl⟩ := h
        rw [if_pos (show f = f ∧ t = t from ⟨rfl, rfl⟩)]
        exact hz
      · rw [if_neg h]; exact v.zero a b ha hb
    · rw [ehd] at h
      rw [ekp, ekp]
      exact v.hdk a b ha hb h
    · rw [efd a b ha hb, ekp]
      by_cases h : (f = a ∧ t = b) ∧ x.kp t ≥ 0 ∧ x.hd t f = false
      · obtain ⟨⟨rfl, rfl⟩, h1, h2⟩ := h
        rw [if_pos ⟨⟨rfl, rfl⟩, h1, h2⟩]
        exact ⟨by omega, fun _ => ⟨h1, hft⟩⟩
      · rw [if_neg h]; exact v.fd0 a b ha hb
    · rw [ew a b ha hb, ekp]
      by_cases h : f = a ∧ t = b
      · obtain ⟨rfl, rfl⟩ := h
        rw [if_pos (show f = f ∧ t = t from ⟨rfl, rfl⟩)]
        rw [hw] at hlen
        simp only [List.length_cons] at hlen
        omega
      · rw [if_neg h]; exact v.len a b ha hb
    · rw [← v.tot]
      have e1 := sumN_upd (f := x.c) (g := y.c) ht fun j hj hne => by rw [ec, if_neg (show ¬ t = j from fun h => hne h.symm)]
      have e2 := sum2_upd (f := fun f t => lsum (x.w n f t)) (g := fun f t => lsum (y.w n f t)) hf ht fun a b ha hb hne => by
        rw [ew a b ha hb, if_neg (show ¬ (f = a ∧ t = b) from fun h => hne ⟨h.1.symm, h.2.symm⟩)]
      rw [e1, e2, ew f t hf ht, if_pos (show f = f ∧ t = t from ⟨rfl, rfl⟩), ec, if_pos (show t = t from rfl), hw]
      simp only [lsum]
      omega
    · rw [← v.vis]
      have e2 := sum2_upd (f := fun f t => if x.hd t f = true then x.fd f t else x.fd f t + pre (x.w n f t)) (g := fun f t => if y.hd t f = true then y.fd f t else y.fd f t + pre (y.w n f t)) hf ht fun a b ha hb hne => by
        rw [ew a b ha hb, if_neg (show ¬ (f = a ∧ t = b) from fun h => hne ⟨h.1.symm, h.2.symm⟩), ehd, efd a b ha hb, if_neg (show ¬ ((f = a ∧ t = b) ∧ x.kp t ≥ 0 ∧ x.hd t f = false) from fun h => hne ⟨h.1.1.symm, h.1.2.symm⟩)]
      have e1 := sumN_upd (f := fun k => if x.kp k ≥ 0 then x.kp k else x.c k) (g := fun k => if y.kp k ≥ 0 then y.kp k else y.c k) ht fun j hj hne => by
        rw [ec, if_neg (show ¬ t = j from fun h => hne h.symm), ekp]
      rw [e1, e2, ew f t hf ht, if_pos (show f = f ∧ t = t from ⟨rfl, rfl⟩), ec, if_pos (show t = t from rfl), ekp, ehd, efd f t hf ht, hw, hpi]
      by_cases hk : x.kp t ≥ 0
      · rw [if_pos hk, if_pos hk]
        by_cases hh : x.hd t f = true
        · rw [if_pos hh, if_pos hh, if_neg (show ¬ ((f = f ∧ t = t) ∧ x.kp t ≥ 0 ∧ x.hd t f = false) from fun h => by rw [hh] at h; exact absurd h.2.2 (by decide))]
          omega
        · have hh' : x.hd t f = false := by simpa using hh
          rw [if_neg hh, if_neg hh, if_pos (show (f = f ∧ t = t) ∧ x.kp t ≥ 0 ∧ x.hd t f = false from ⟨⟨rfl, rfl⟩, hk, hh'⟩)]
          omega
      · rw [if_neg hk, if_neg hk]
        have hh : x.hd t f = false := by
          cases hh : x.hd t f with
          | false => rfl
          | true => exact absurd (v.hdk f t hf ht hh).2.1 hk
        rw [hh, if_neg (show ¬ ((f = f ∧ t = t) ∧ x.kp t ≥ 0 ∧ false = false) from fun h => hk h.2.1)]
        simp
        omega
  · have hi0 : item = 0 := by omega
    subst hi0
    have hz := v.zero f t hf ht
    rw [hw] at hz
    have hc : x.kp f ≥ 0 ∧ f ≠ t ∧ x.hd t f = false := by
      by_cases h : x.kp f ≥ 0 ∧ f ≠ t ∧ x.hd t f = false
      · exact h
      · rw [if_neg h] at hz; simp at hz
    by_cases hk : x.kp t < 0
    · have vz := v.record ht hk
      have hz1 : (recordD n x t).w n f t = 0 :: rest := by
        rw [← hw]
        unfold recordD BankD.w; dsimp only
        rw [recTo_get wf.ways ht n (Nat.le_refl _), if_neg]
        rintro ⟨u, hu, hne, he⟩
        exact hft (idx_inj ht hu he).1
      have hkz : (recordD n x t).kp t ≥ 0 := by
        unfold recordD BankD.kp; dsimp only
        rw [c_set wf.kept ht, if_pos rfl]
        exact v.c0 t ht
      have hp : (x.kept.getD t 0 < 0) := hk
      refine vz.mark hf ht hkz hz1 ⟨_, wfy⟩ (fun j hj => ?_) (fun j hj => ?_) (fun a b ha hb => ?_) (fun a b ha hb => ?_) fun a b ha hb => ?_
      · unfold takeD; rw [if_neg hi]; dsimp only; rw [if_pos hp]; rfl
      · unfold takeD; rw [if_neg hi]; dsimp only; rw [if_pos hp]; rfl
      · unfold takeD; rw [if_neg hi]; dsimp only; rw [if_pos hp]
        show (recTo n t (x.ways.set (f * n + t) rest) n).getD (a * n + b) [] = if f = a ∧ t = b then rest else (recTo n t x.ways n).getD (a * n + b) []
        rw [recTo_get (by simpa using wf.ways) ht n (Nat.le_refl _), recTo_get wf.ways ht n (Nat.le_refl _), w_set wf.ways hf ht ha hb]
        by_cases h : f = a ∧ t = b
        · obtain ⟨rfl, rfl⟩ := h
          rw [if_pos (show f = f ∧ t = t from ⟨rfl, rfl⟩), if_pos (show f = f ∧ t = t from ⟨rfl, rfl⟩), if_neg]
          rintro ⟨u, hu, hne, he⟩
          exact hft (idx_inj ht hu he).1
        · rw [if_neg h, if_neg h]
      · unfold takeD; rw [if_neg hi]; dsimp only; rw [if_pos hp]
        show ((x.heard.set t ((x.heard.getD t []).set f true)).getD b []).getD a false = if f = a ∧ t = b then true else (x.heard.getD b []).getD a false
        rw [getD_set, wf.heard]
        by_cases htb : t = b
        · subst htb
          rw [if_pos ⟨rfl, ht⟩, getD_set, wf.hrow t ht]
          by_cases hfa : f = a
          · subst hfa; rw [if_pos ⟨rfl, hf⟩, if_pos ⟨rfl, rfl⟩]
          · rw [if_neg (fun h => hfa h.1), if_neg (fun h => hfa h.1)]
        · rw [if_neg (fun h => htb h.1), if_neg (fun h => htb h.2)]
      · unfold takeD; rw [if_neg hi]; dsimp only; rw [if_pos hp]; rfl
    · have hp : ¬ (x.kept.getD t 0 < 0) := hk
      refine v.mark hf ht (by omega) hw ⟨_, wfy⟩ (fun j hj => ?_) (fun j hj => ?_) (fun a b ha hb => ?_) (fun a b ha hb => ?_) fun a b ha hb => ?_
      · unfold takeD; rw [if_neg hi]; dsimp only; rw [if_neg hp]; rfl
      · unfold takeD; rw [if_neg hi]; dsimp only; rw [if_neg hp]; rfl
      · unfold takeD; rw [if_neg hi]; dsimp only; rw [if_neg hp]
        exact ew0 a b ha hb
      · unfold takeD; rw [if_neg hi]; dsimp only; rw [if_neg hp]
        show ((x.heard.set t ((x.heard.getD t []).set f true)).getD b []).getD a false = if f = a ∧ t = b then true else (x.heard.getD b []).getD a false
        rw [getD_set, wf.heard]
        by_cases htb : t = b
        · subst htb
          rw [if_pos ⟨rfl, ht⟩, getD_set, wf.hrow t ht]
          by_cases hfa : f = a
          · subst hfa; rw [if_pos ⟨rfl, hf⟩, if_pos ⟨rfl, rfl⟩]
          · rw [if_neg (fun h => hfa h.1), if_neg (fun h => hfa h.1)]
        · rw [if_neg (fun h => htb h.1), if_neg (fun h => htb h.2)]
      · unfold takeD; rw [if_neg hi]; dsimp only; rw [if_neg hp]; rfl
end
end Go.Proofs.Ytjmhahjmbmiepaa.D

namespace Go.Proofs.Ytjmhahjmbmiepaa.D
open Go
set_option linter.unusedVariables false
set_option linter.unusedSimpArgs false

section
variable {n : Nat} {T : Int} {x y : BankD}

theorem Inv.step (v : Inv n T x) {s : StepD} (h : stepD n x s = some y) : Inv n T y := by
  unfold stepD at h
  split at h
  · rename_i hr
    simp only [Bool.and_eq_true, inR_iff] at hr
    obtain ⟨⟨a1, a2⟩, b1, b2⟩ := hr
    obtain ⟨i, wf⟩ := v.wf
    have hp := wf.pos
    have hf : s.from_.toNat < n := by omega
    have ht : s.to.toNat < n := by omega
    dsimp only at h
    split at h
    · split at h
      · rename_i hc
        simp only [Bool.and_eq_true, inR_iff, decide_eq_true_eq] at hc
        injection h with h
        subst h
        exact v.give hf ht hc.1.1.1 hc.1.1.2 hc.1.2 hc.2
      · cases h
    · split at h
      · split at h
        · rename_i hc
          simp only [Bool.and_eq_true, decide_eq_true_eq] at hc
          injection h with h
          subst h
          cases hw : x.ways.getD (s.from_.toNat * n + s.to.toNat) [] with
          | nil => exact absurd hw hc.1
          | cons item rest =>
            exact v.take hf ht (item := item) (rest := rest) hw
        · cases h
      · split at h
        · split at h
          · rename_i hc
            simp only [Bool.and_eq_true, decide_eq_true_eq] at hc
            injection h with h
            subst h
            exact v.record hf hc.1.1
          · cases h
        · cases h
  · cases h
theorem sumN_const_le {f : Nat → Int} {B : Int} : ∀ {n : Nat}, (∀ j, j < n → f j ≤ B) → sumN f n ≤ n * B
  | 0, _ => by simp [sumN]
  | n + 1, h => by
    have := sumN_const_le (n := n) fun j hj => h j (by omega)
    have := h n (by omega)
    unfold sumN
    rw [Int.natCast_succ, Int.add_mul]
    omega
theorem sumN_zero {f : Nat → Int} : ∀ {n : Nat}, (∀ j, j < n → f j = 0) → sumN f n = 0
  | 0, _ => rfl
  | n + 1, h => by unfold sumN; rw [sumN_zero fun j hj => h j (by omega), h n (by omega)]; rfl
theorem Inv.new {xs : List Int} (h : coinsOk xs = true) : Inv xs.length (sumN (fun k => xs.getD k 0) xs.length) (newD xs.length xs) := by
  have hn := coinsOk_len h
  unfold coinsOk at h
  rw [Bool.and_eq_true, List.all_eq_true] at h
  have hc : ∀ k, k < xs.length → 0 ≤ xs.getD k 0 ∧ xs.getD k 0 ≤ 50 := fun k hk => by
    have := h.2 _ (List.getElem_mem hk)
    rw [inR_iff] at this
    rw [← getD_get 0 hk]
    exact this
  have ew : ∀ f t, (newD xs.length xs).w xs.length f t = [] := fun f t => by
    unfold newD BankD.w; dsimp only
    simp only [List.getD_eq_getElem?_getD, List.getElem?_replicate]; split <;> rfl
  have ekp : ∀ k, k < xs.length → (newD xs.length xs).kp k = -1 := fun k hk => by
    unfold newD BankD.kp; dsimp only
    simp only [List.getD_eq_getElem?_getD, List.getElem?_replicate, if_pos hk]; rfl
  have ehd : ∀ t f, (newD xs.length xs).hd t f = false := fun t f => by
    unfold newD BankD.hd; dsimp only
    simp only [List.getD_eq_getElem?_getD, List.getElem?_replicate]
    by_cases ht : t < xs.length
    · simp only [if_pos ht, Option.getD_some, List.getElem?_replicate]; split <;> rfl
    · simp [if_neg ht]
  have efd : ∀ f t, (newD xs.length xs).fd f t = 0 := fun f t => by
    unfold newD BankD.fd; dsimp only
    simp only [List.getD_eq_getElem?_getD, List.getElem?_replicate]
    by_cases ht : f < xs.length
    · simp only [if_pos ht, Option.getD_some, List.getElem?_replicate]; split <;> rfl
    · simp [if_neg ht]
  have s0 := sumN_nonneg (f := fun k => xs.getD k 0) (n := xs.length) fun j hj => (hc j hj).1
  have s1 := sumN_const_le (f := fun k => xs.getD k 0) (B := 50) (n := xs.length) fun j hj => (hc j hj).2
  refine ⟨⟨0, WfB.new hn.1 hn.2 rfl⟩, ⟨s0, by omega⟩, fun k hk => (hc k hk).1, fun f t hf ht m hm => ?_, fun f t hf ht => ?_, fun f t hf ht hh => ?_, fun f t hf ht => ?_, fun k hk => ?_, fun f t hf ht => ?_, ?_, ?_⟩
  · rw [ew] at hm; cases hm
  · rw [ew, ekp f hf, if_neg (fun h => absurd h.1 (by decide))]; rfl
  · rw [ehd] at hh; cases hh
  · rw [efd]; exact ⟨Int.le_refl _, fun h => absurd rfl h⟩
  · rw [ekp k hk]; omega
  · rw [ew]; simp
  · have : sum2 (fun f t => lsum ((newD xs.length xs).w xs.length f t)) xs.length = 0 := sumN_zero fun i hi => sumN_zero fun j hj => by dsimp only; rw [ew]; rfl
    rw [this]
    exact Int.add_zero _
  · have h1 : sum2 (fun f t => if (newD xs.length xs).hd t f = true then (newD xs.length xs).fd f t else (newD xs.length xs).fd f t + pre ((newD xs.length xs).w xs.length f t)) xs.length = 0 :=
      sumN_zero fun i hi => sumN_zero fun j hj => by dsimp only; rw [ew, ehd, efd]; rfl
    rw [h1, Int.add_zero]
    refine sumN_congr fun j hj => ?_
    rw [ekp j hj, if_neg (by decide)]
    rfl
theorem Inv.run (v : Inv n T x) (l : List StepD) : ∀ i, i ≤ l.length → Inv n T (runD n x (l.take i)).1
  | 0, _ => by simpa [runD] using v
  | i + 1, hi => by
    have ih := Inv.run v l i (by omega)
    rw [List.take_succ_eq_append_getElem (by omega), runD_snoc]
    cases hs : stepD n (runD n x (l.take i)).1 l[i] with
    | none => simpa [hs] using ih
    | some y => simpa [hs] using ih.step hs
theorem Inv.play {xs : List Int} {ss : List StepD} (h : (playD xs ss).ok = true) : Inv xs.length (sumN (fun k => xs.getD k 0) xs.length) (playD xs ss).bank := by
  unfold playD at h ⊢
  split at h
  · rename_i hc
    rw [if_pos hc]
    simp only [Bool.and_eq_true] at hc
    have := (Inv.new hc.1).run ss ss.length (Nat.le_refl _)
    rw [List.take_length] at this
    exact this
  · cases h
end
end Go.Proofs.Ytjmhahjmbmiepaa.D

namespace Go.Proofs.Ytjmhahjmbmiepaa.D
open Go
set_option linter.unusedVariables false
set_option linter.unusedSimpArgs false

section
variable {n : Nat} {T : Int} {x y : BankD}

def BankD.begun (n : Nat) (x : BankD) : Prop := ∃ k, k < n ∧ x.kp k ≥ 0
theorem Inv.whole (v : Inv n T x) (hb : x.begun n) (he : ∀ f t, f < n → t < n → x.w n f t = []) :
    (∀ k, k < n → x.kp k ≥ 0) ∧ (∀ f t, f < n → t < n → f ≠ t → x.hd t f = true) ∧ sumN x.kp n + sum2 x.fd n = T := by
  obtain ⟨k, hk, hkp⟩ := hb
  have hd0 : ∀ f t, f < n → t < n → f ≠ t → x.kp f ≥ 0 → x.hd t f = true := fun f t hf ht hne hkf => by
    have hz := v.zero f t hf ht
    rw [he f t hf ht] at hz
    cases hh : x.hd t f with
    | true => rfl
    | false => rw [if_pos ⟨hkf, hne, hh⟩] at hz; simp at hz
  have all : ∀ t, t < n → x.kp t ≥ 0 := fun t ht => by
    by_cases h : k = t
    · subst h; exact hkp
    · exact (v.hdk k t hk ht (hd0 k t hk ht h hkp)).2.1
  refine ⟨all, fun f t hf ht hne => hd0 f t hf ht hne (all f hf), ?_⟩
  rw [← v.vis]
  congr 1
  · exact (sumN_congr fun j hj => by rw [if_pos (all j hj)]).symm
  · refine (sum2_congr fun f t hf ht => ?_).symm
    rw [he f t hf ht]
    split
    · rfl
    · simp [pre]

theorem kp_take {f t : Nat} {item : Int} (h : x.kept.length = n) (ht : t < n) (hc : 0 ≤ x.c t) {k : Nat} (hk : x.kp k ≥ 0) : (takeD n x f t item).kp k ≥ 0 := by
  unfold takeD
  split
  · dsimp only
    split <;> exact hk
  · dsimp only
    split
    · show (x.kept.set t (x.coins.getD t 0)).getD k 0 ≥ 0
      rw [c_set h ht]
      split
      · exact hc
      · exact hk
    · exact hk
/-- The steps that let come what is on the way. -/
theorem take_step {f t : Nat} (v : Inv n T x) (hf : f < n) (ht : t < n) :
    (x.w n f t = [] ∧ stepD n x ⟨2, f, t, 0⟩ = none) ∨ ∃ item rest, x.w n f t = item :: rest ∧ stepD n x ⟨2, f, t, 0⟩ = some (takeD n { x with ways := x.ways.set (f * n + t) rest } f t item) := by
  cases hw : x.w n f t with
  | nil => exact .inl ⟨rfl, take_no hf ht fun h => h.1 hw⟩
  | cons item rest =>
    refine .inr ⟨item, rest, rfl, ?_⟩
    have hw' : x.ways.getD (f * n + t) [] = item :: rest := hw
    rw [take_yes hf ht (by rw [hw']; simp) rfl, hw']
    rfl
theorem begun_take {f t : Nat} (v : Inv n T x) (hb : x.begun n) (hf : f < n) (ht : t < n) (h : stepD n x ⟨2, f, t, 0⟩ = some y) : y.begun n := by
  obtain ⟨k, hk, hkp⟩ := hb
  obtain ⟨i, wf⟩ := v.wf
  rcases take_step v hf ht with ⟨_, e⟩ | ⟨item, rest, _, e⟩
  · rw [e] at h; cases h
  · rw [e] at h
    injection h with h
    subst h
    exact ⟨k, hk, kp_take (x := { x with ways := x.ways.set (f * n + t) rest }) wf.kept ht (v.c0 t ht) hkp⟩
end
end Go.Proofs.Ytjmhahjmbmiepaa.D

namespace Go.Proofs.Ytjmhahjmbmiepaa.D
open Go
set_option linter.unusedVariables false
set_option linter.unusedSimpArgs false

section
variable {n : Nat} {T : Int} {x y : BankD}

def BankD.todo (n : Nat) (x : BankD) : Int := sum2 (fun f t => ((x.w n f t).length : Int)) n + n * sumN (fun k => if x.kp k < 0 then 1 else 0) n
theorem todo_nonneg (n : Nat) (x : BankD) : 0 ≤ x.todo n := by
  unfold BankD.todo
  have h1 := sum2_nonneg (f := fun f t => ((x.w n f t).length : Int)) (n := n) fun i j _ _ => by omega
  have h2 := sumN_nonneg (f := fun k => if x.kp k < 0 then (1 : Int) else 0) (n := n) fun j _ => by split <;> omega
  have h3 := Int.mul_nonneg (show (0 : Int) ≤ n by omega) h2
  omega
theorem sumN_succ_le {f g : Nat → Int} : ∀ {n : Nat}, (∀ j, j < n → g j ≤ f j + 1) → sumN g n ≤ sumN f n + n
  | 0, _ => by simp [sumN]
  | n + 1, h => by
    have := sumN_succ_le (n := n) fun j hj => h j (by omega)
    have := h n (by omega)
    unfold sumN
    omega
theorem todo_pop {f t : Nat} {item : Int} {rest : List Int} (hf : f < n) (ht : t < n) (hw : x.w n f t = item :: rest) (ew : ∀ a b, a < n → b < n → y.w n a b = if f = a ∧ t = b then rest else x.w n a b) (ekp : ∀ k, k < n → y.kp k = x.kp k) :
    y.todo n + 1 ≤ x.todo n := by
  unfold BankD.todo
  have e2 := sum2_upd (f := fun f t => ((x.w n f t).length : Int)) (g := fun f t => ((y.w n f t).length : Int)) hf ht fun a b ha hb hne => by
    rw [ew a b ha hb, if_neg (show ¬ (f = a ∧ t = b) from fun h => hne ⟨h.1.symm, h.2.symm⟩)]
  have e1 := sumN_congr (n := n) (f := fun k => if x.kp k < 0 then (1 : Int) else 0) (g := fun k => if y.kp k < 0 then (1 : Int) else 0) fun j hj => by rw [ekp j hj]
  rw [e1, e2, ew f t hf ht, if_pos (show f = f ∧ t = t from ⟨rfl, rfl⟩), hw]
  simp only [List.length_cons]
  omega
theorem todo_record {k : Nat} (v : Inv n T x) (hk : k < n) (hkp : x.kp k < 0) : (recordD n x k).todo n ≤ x.todo n := by
  obtain ⟨i, wf⟩ := v.wf
  have hck := v.c0 k hk
  have ekp : ∀ j, (recordD n x k).kp j = if k = j then x.c k else x.kp j := fun j => by
    unfold recordD BankD.kp BankD.c; dsimp only; rw [c_set wf.kept hk]
  have ew : ∀ f t, f < n → t < n → (recordD n x k).w n f t = if f = k ∧ t ≠ k then x.w n f t ++ [0] else x.w n f t := fun f t hf ht => by
    unfold recordD BankD.w; dsimp only
    rw [recTo_get wf.ways hk n (Nat.le_refl _)]
    by_cases h : f = k ∧ t ≠ k
    · rw [if_pos h, if_pos ⟨t, ht, h.2, by rw [h.1]⟩]
    · rw [if_neg h, if_neg]
      rintro ⟨u, hu, hne, he⟩
      obtain ⟨rfl, rfl⟩ := idx_inj ht hu he
      exact h ⟨rfl, hne⟩
  unfold BankD.todo
  have e1 := sumN_upd (f := fun k => if x.kp k < 0 then (1 : Int) else 0) (g := fun j => if (recordD n x k).kp j < 0 then (1 : Int) else 0) hk fun j hj hne => by
    rw [ekp, if_neg (show ¬ k = j from fun h => hne h.symm)]
  have e2 : sum2 (fun f t => (((recordD n x k).w n f t).length : Int)) n = sum2 (fun f t => ((x.w n f t).length : Int)) n - sumN (fun t => ((x.w n k t).length : Int)) n + sumN (fun t => (((recordD n x k).w n k t).length : Int)) n := by
    unfold sum2
    refine sumN_upd (f := fun f => sumN (fun t => ((x.w n f t).length : Int)) n) (g := fun f => sumN (fun t => (((recordD n x k).w n f t).length : Int)) n) hk fun a ha hne => sumN_congr fun b hb => ?_
    rw [ew a b ha hb, if_neg (show ¬ (a = k ∧ b ≠ k) from fun h => hne h.1)]
  have e3 := sumN_succ_le (n := n) (f := fun t => ((x.w n k t).length : Int)) (g := fun t => (((recordD n x k).w n k t).length : Int)) fun t ht => by
    rw [ew k t hk ht]
    split
    · rw [List.length_append]; simp
    · omega
  have e4 : (if (recordD n x k).kp k < 0 then (1 : Int) else 0) = 0 := by rw [ekp, if_pos rfl, if_neg (by omega)]
  have e5 : (if x.kp k < 0 then (1 : Int) else 0) = 1 := if_pos hkp
  rw [e1, e2, e4, e5, Int.add_zero, Int.mul_sub, Int.mul_one]
  omega
theorem take_dec {f t : Nat} (v : Inv n T x) (hf : f < n) (ht : t < n) (h : stepD n x ⟨2, f, t, 0⟩ = some y) : y.todo n + 1 ≤ x.todo n := by
  obtain ⟨i, wf⟩ := v.wf
  rcases take_step v hf ht with ⟨_, e⟩ | ⟨item, rest, hw, e⟩
  · rw [e] at h; cases h
  · rw [e] at h
    injection h with h
    have hft : f ≠ t := by
      rintro rfl
      have : x.w n f f = [] := wf.diag f hf
      rw [this] at hw; cases hw
    by_cases hr : ¬ item > 0 ∧ x.kp t < 0
    · have h1 := todo_record v ht hr.2
      have hz1 : (recordD n x t).w n f t = item :: rest := by
        rw [← hw]
        unfold recordD BankD.w; dsimp only
        rw [recTo_get wf.ways ht n (Nat.le_refl _), if_neg]
        rintro ⟨u, hu, hne, he⟩
        exact hft (idx_inj ht hu he).1
      have hp : (x.kept.getD t 0 < 0) := hr.2
      have h2 := todo_pop (x := recordD n x t) (y := y) hf ht hz1 (fun a b ha hb => ?_) (fun k hk => ?_)
      · omega
      · rw [← h]
        unfold takeD; rw [if_neg hr.1]; dsimp only; rw [if_pos hp]
        show (recTo n t (x.ways.set (f * n + t) rest) n).getD (a * n + b) [] = if f = a ∧ t = b then rest else (recTo n t x.ways n).getD (a * n + b) []
        rw [recTo_get (by simpa using wf.ways) ht n (Nat.le_refl _), recTo_get wf.ways ht n (Nat.le_refl _), w_set wf.ways hf ht ha hb]
        by_cases h : f = a ∧ t = b
        · obtain ⟨rfl, rfl⟩ := h
          rw [if_pos (show f = f ∧ t = t from ⟨rfl, rfl⟩), if_pos (show f = f ∧ t = t from ⟨rfl, rfl⟩), if_neg]
          rintro ⟨u, hu, hne, he⟩
          exact hft (idx_inj ht hu he).1
        · rw [if_neg h, if_neg h]
      · rw [← h]
        unfold takeD; rw [if_neg hr.1]; dsimp only; rw [if_pos hp]; rfl
    · refine todo_pop hf ht hw (fun a b ha hb => ?_) (fun k hk => ?_)
      · rw [← h]
        have e0 : ({ x with ways := x.ways.set (f * n + t) rest } : BankD).w n a b = if f = a ∧ t = b then rest else x.w n a b := w_set wf.ways hf ht ha hb
        rw [← e0]
        unfold takeD
        by_cases hi : item > 0
        · rw [if_pos hi]; dsimp only; split <;> rfl
        · rw [if_neg hi]; dsimp only; rw [if_neg (show ¬ x.kept.getD t 0 < 0 from fun h => hr ⟨hi, h⟩)]; rfl
      · rw [← h]
        unfold takeD
        by_cases hi : item > 0
        · rw [if_pos hi]; dsimp only; split <;> rfl
        · rw [if_neg hi]; dsimp only; rw [if_neg (show ¬ x.kept.getD t 0 < 0 from fun h => hr ⟨hi, h⟩)]; rfl
end
end Go.Proofs.Ytjmhahjmbmiepaa.D
