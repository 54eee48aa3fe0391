/- Numbers put in another order: exchanges, what stays, what is in order. Plain law. -/
import Derived.Test.YtjmhahjmbmiepaaSepF
import Derived.Test.YtjmhahjmbmiepaaBnkA
import Derived.Test.YtjmhahjmbmiepaaMh
import Derived.Test.YtjmhahjmbmiepaaSepI
namespace Go.Proofs.Ytjmhahjmbmiepaa.D
open Go
set_option linter.unusedVariables false
set_option linter.unusedSimpArgs false

def sw (xs : List Int) (p q : Nat) : List Int := (xs.set q (xs.getD p 0)).set p (xs.getD q 0)
theorem sw_len (xs : List Int) (p q : Nat) : (sw xs p q).length = xs.length := by simp [sw]
theorem getD_setI {xs : List Int} {i k : Nat} {v : Int} (hi : i < xs.length) : (xs.set i v).getD k 0 = if k = i then v else xs.getD k 0 := by
  by_cases hk : k < xs.length
  · rw [getD_of 0 (by simpa using hk), List.getElem_set, getD_of 0 hk]
    by_cases h : i = k
    · subst h; simp
    · have : ¬ k = i := fun e => h e.symm
      simp [h, this]
  · have h1 : ¬ k = i := by omega
    rw [if_neg h1, List.getD_eq_getElem?_getD, List.getD_eq_getElem?_getD, List.getElem?_eq_none (by simp; omega), List.getElem?_eq_none (by omega)]
theorem sw_get {xs : List Int} {p q : Nat} (hp : p < xs.length) (hq : q < xs.length) (k : Nat) : (sw xs p q).getD k 0 = if k = p then xs.getD q 0 else if k = q then xs.getD p 0 else xs.getD k 0 := by
  unfold sw
  rw [getD_setI (by simpa using hp), getD_setI hq]
theorem sw_perm {xs : List Int} {p q : Nat} (hp : p < xs.length) (hq : q < xs.length) : (sw xs p q).Perm xs := by
  rw [List.perm_iff_count]
  intro v
  have e : sw xs p q = (xs.set q xs[p]).set p xs[q] := by unfold sw; rw [getD_of 0 hp, getD_of 0 hq]
  rw [e, List.count_set (by simpa using hp), List.count_set hq, List.getElem_set]
  by_cases h : q = p
  · subst h
    simp only [↓reduceIte]
    by_cases hv : xs[q] = v
    · have : 0 < xs.count v := List.count_pos_iff.2 (hv ▸ List.getElem_mem _)
      simp [hv]; omega
    · simp [hv]
  · simp only [h, ↓reduceIte]
    by_cases h1 : xs[p] = v <;> by_cases h2 : xs[q] = v
    · have : 0 < xs.count v := List.count_pos_iff.2 (h1 ▸ List.getElem_mem _)
      simp [h1, h2]; omega
    · have : 0 < xs.count v := List.count_pos_iff.2 (h1 ▸ List.getElem_mem _)
      simp [h1, h2]
    · have : 0 < xs.count v := List.count_pos_iff.2 (h2 ▸ List.getElem_mem _)
      simp [h1, h2]; omega
    · simp [h1, h2]

/-- Only what stands from a to b is in another order. -/
structure Re (a b : Nat) (xs ys : List Int) : Prop where
  perm : ys.Perm xs
  out : ∀ k, k < a ∨ b ≤ k → ys.getD k 0 = xs.getD k 0
  cl : ∀ k, a ≤ k → k < b → ∃ k', a ≤ k' ∧ k' < b ∧ ys.getD k 0 = xs.getD k' 0
theorem Re.refl (a b : Nat) (xs : List Int) : Re a b xs xs := ⟨List.Perm.refl _, fun _ _ => rfl, fun k h1 h2 => ⟨k, h1, h2, rfl⟩⟩
theorem Re.trans {a b : Nat} {xs ys zs : List Int} (r : Re a b xs ys) (s : Re a b ys zs) : Re a b xs zs :=
  ⟨s.perm.trans r.perm, fun k hk => (s.out k hk).trans (r.out k hk), fun k h1 h2 => by
    obtain ⟨k1, u1, u2, e1⟩ := s.cl k h1 h2
    obtain ⟨k2, w1, w2, e2⟩ := r.cl k1 u1 u2
    exact ⟨k2, w1, w2, e1.trans e2⟩⟩
theorem Re.mono {a b a' b' : Nat} {xs ys : List Int} (r : Re a' b' xs ys) (ha : a ≤ a') (hb : b' ≤ b) : Re a b xs ys :=
  ⟨r.perm, fun k hk => r.out k (by omega), fun k h1 h2 => by
    by_cases h : a' ≤ k ∧ k < b'
    · obtain ⟨k', u1, u2, e⟩ := r.cl k h.1 h.2
      exact ⟨k', by omega, by omega, e⟩
    · exact ⟨k, h1, h2, r.out k (by omega)⟩⟩
theorem Re.sw {a b p q : Nat} {xs : List Int} (hp : a ≤ p ∧ p < b) (hq : a ≤ q ∧ q < b) (hb : b ≤ xs.length) : Re a b xs (D.sw xs p q) :=
  ⟨sw_perm (by omega) (by omega), fun k hk => by rw [sw_get (by omega) (by omega), if_neg (by omega), if_neg (by omega)], fun k h1 h2 => by
    rw [sw_get (by omega) (by omega)]
    by_cases e1 : k = p
    · exact ⟨q, hq.1, hq.2, by rw [if_pos e1]⟩
    · by_cases e2 : k = q
      · exact ⟨p, hp.1, hp.2, by rw [if_neg e1, if_pos e2]⟩
      · exact ⟨k, h1, h2, by rw [if_neg e1, if_neg e2]⟩⟩
theorem Re.len {a b : Nat} {xs ys : List Int} (r : Re a b xs ys) : ys.length = xs.length := r.perm.length_eq

/-- What of two comes first: the greater value, else the smaller number. -/
def bf (V : Int → Int) (x y : Int) : Prop := V x > V y ∨ V x = V y ∧ x < y
theorem bf_trans {V : Int → Int} {x y z : Int} (h : bf V x y) (k : bf V y z) : bf V x z := by
  unfold bf at *; omega
theorem bf_asymm {V : Int → Int} {x y : Int} (h : bf V x y) (k : bf V y x) : False := by
  unfold bf at *; omega
def Srt (V : Int → Int) (a b : Nat) (xs : List Int) : Prop := ∀ i j, a ≤ i → i < j → j < b → bf V (xs.getD i 0) (xs.getD j 0)
theorem Srt.pairwise {V : Int → Int} {xs : List Int} (s : Srt V 0 xs.length xs) : xs.Pairwise (bf V) := by
  rw [List.pairwise_iff_getElem]
  intro i j hi hj hij
  have := s i j (by omega) hij hj
  rwa [getD_of 0 hi, getD_of 0 hj] at this
/-- Two lists of the same numbers, both in order, are one. -/
theorem Srt.uniq {V : Int → Int} {xs ys : List Int} (p : xs.Perm ys) (s : Srt V 0 xs.length xs) (t : Srt V 0 ys.length ys) : xs = ys :=
  List.Perm.eq_of_pairwise (fun _ _ _ _ h k => (bf_asymm h k).elim) s.pairwise t.pairwise p
end Go.Proofs.Ytjmhahjmbmiepaa.D

namespace Go.Proofs.Ytjmhahjmbmiepaa.D
open Go
set_option linter.unusedVariables false
set_option linter.unusedSimpArgs false

section
variable {h : Heap} {L R : List Asn} {a : Option Addr} {n c : Nat} {xs : List Int}
theorem Own.swap {p q : Nat} {G : Heap → Prop} (H : Own h L) [j : SlAny a n L c Int kI xs R] (hp : p < n) (hq : q < n) (hk : ∀ g, Own g (slA kI (sw xs q p) a n c :: R) → G g) :
    ∃ b o, a = some ⟨b, o, none⟩ ∧ (0 : Int) ≤ (q : Int) ∧ (q : Int) < (n : Int) ∧ ∃ x, cellAt h b (o + q) = some (.int .i64 x) ∧
    ∃ b o, a = some ⟨b, o, none⟩ ∧ (0 : Int) ≤ (p : Int) ∧ (p : Int) < (n : Int) ∧ ∃ x', cellAt h b (o + p) = some (.int .i64 x') ∧
    ∃ b o, a = some ⟨b, o, none⟩ ∧ (0 : Int) ≤ (p : Int) ∧ (p : Int) < (n : Int) ∧ ∃ (e : TypeId) (cs : List Value), Row h b e cs ∧ o + p < cs.length ∧ ∀ h' : Heap, h' = putRow h b e (cs.set (o + p) (.int .i64 x)) →
    ∃ b o, a = some ⟨b, o, none⟩ ∧ (0 : Int) ≤ (q : Int) ∧ (q : Int) < (n : Int) ∧ ∃ (e : TypeId) (cs : List Value), Row h' b e cs ∧ o + q < cs.length ∧ ∀ h'' : Heap, h'' = putRow h' b e (cs.set (o + q) (.int .i64 x')) → G h'' := by
  have H := H.perm j.perm
  have hl := (H.len m0).1
  obtain ⟨b1, o1, e1, c1, i1⟩ := H.intAt m0 (i := q) (by omega)
  obtain ⟨b2, o2, e2, c2, i2⟩ := H.intAt m0 (i := p) (by omega)
  refine ⟨b1, o1, e1, by omega, by omega, _, c1, b2, o2, e2, by omega, by omega, _, c2, ?_⟩
  obtain ⟨b3, o3, row3, e3, r3, l3, s3⟩ := H.setInt (i := p) (by omega)
  refine ⟨b3, o3, e3, by omega, by omega, _, _, r3, l3, ?_⟩
  rintro h' rfl
  have H := s3 _ i1
  obtain ⟨b4, o4, row4, e4, r4, l4, s4⟩ := H.setInt (i := q) (by simp; omega)
  refine ⟨b4, o4, e4, by omega, by omega, _, _, r4, l4, ?_⟩
  rintro h'' rfl
  have H := s4 _ i2
  refine hk _ ?_
  unfold sw
  rw [getD_of 0 (show q < xs.length by omega), getD_of 0 (show p < xs.length by omega)]
  exact H

theorem swapRange_ok {x y k : Nat} (fv : Value) (H : Own h (slA kI xs a n c :: L)) (hxy : x + k ≤ y) (hy : y + k ≤ n) :
    CallsH PP fn_slices_swapRangeCmpFunc_int [.slice a n c, .int .i64 (x : Nat), .int .i64 (y : Nat), .int .i64 (k : Nat), fv] h fun v h' => v = .tuple ⟨[]⟩ ∧ ∃ ys, Own h' (slA kI ys a n c :: L) ∧ Re x (y + k) xs ys ∧
      (∀ t, t < k → ys.getD (x + t) 0 = xs.getD (y + t) 0 ∧ ys.getD (y + t) 0 = xs.getD (x + t) 0) ∧ ∀ t, x + k ≤ t → t < y → ys.getD t 0 = xs.getD t 0 := by
  refine calls_slices_swapRangeCmpFunc_int _ _ _ _ _ _ _ ?_
  unfold M_slices_swapRangeCmpFunc_int
  have ln := H.ln a n c
  refine ⟨UpI k fun i g => ∃ ys, Own g (slA kI ys a n c :: L) ∧ Re x (y + k) xs ys ∧ (∀ t, t < i → ys.getD (x + t) 0 = xs.getD (y + t) 0 ∧ ys.getD (y + t) 0 = xs.getD (x + t) 0) ∧
      (∀ t, i ≤ t → t < k → ys.getD (x + t) 0 = xs.getD (x + t) 0 ∧ ys.getD (y + t) 0 = xs.getD (y + t) 0) ∧ ∀ t, x + k ≤ t → t < y → ys.getD t 0 = xs.getD t 0, UpM k,
    UpI.start ⟨xs, H, Re.refl _ _ _, fun t ht => by omega, fun t _ _ => ⟨rfl, rfl⟩, fun _ _ _ => rfl⟩, ?_⟩
  intro g i0 hI
  obtain ⟨i, hi, rfl, ys, H, re, h1, h2, h3⟩ := hI.elim
  have lys := re.len
  (refine br (fun hc => ?_) (fun hc => ?_) <;> (try simp only [decide_eq_true_eq, decide_eq_false_iff_not, beq_iff_eq, bne_iff_ne, ne_eq, Bool.not_eq_true', Bool.not_eq_false', Bool.not_eq_true, Bool.not_eq_false, beq_eq_false_iff_ne, bne_eq_false_iff_eq, Int.not_lt, Int.not_le, gt_iff_lt, ge_iff_le, Decidable.not_not] at hc))
  · have hi : i < k := by omega
    have e1 : IntKind.i64.wrap ((y : Int) + (i : Int)) = ((y + i : Nat) : Int) := by rw [wrap64_of (by omega) (by omega)]; omega
    have e2 : IntKind.i64.wrap ((x : Int) + (i : Int)) = ((x + i : Nat) : Int) := by rw [wrap64_of (by omega) (by omega)]; omega
    rw [e1, e2]
    simp only [Int.toNat_natCast]
    refine H.swap (p := x + i) (q := y + i) (by omega) (by omega) fun g2 H => ?_
    have hg := sw_get (xs := ys) (p := y + i) (q := x + i) (by omega) (by omega)
    refine UpI.next (by omega) hi ⟨_, H, re.trans (Re.sw (by omega) (by omega) (by omega)), fun t ht => ?_, fun t t1 t2 => ?_, fun t t1 t2 => ?_⟩
    · rw [hg, hg]
      by_cases e : t = i
      · subst e
        have := h2 t (by omega) (by omega)
        rw [if_neg (by omega), if_pos rfl, if_pos rfl]
        exact ⟨this.2, this.1⟩
      · rw [if_neg (by omega), if_neg (by omega), if_neg (by omega), if_neg (by omega)]
        exact h1 t (by omega)
    · rw [hg, hg, if_neg (by omega), if_neg (by omega), if_neg (by omega), if_neg (by omega)]
      exact h2 t (by omega) t2
    · rw [hg, if_neg (by omega), if_neg (by omega)]
      exact h3 t t1 t2
  · have : i = k := by omega
    subst this
    exact ⟨rfl, ys, H, re, h1, h3⟩

theorem rotate_ok {x m y : Nat} (fv : Value) (H : Own h (slA kI xs a n c :: L)) (hxm : x < m) (hmy : m < y) (hy : y ≤ n) :
    CallsH PP fn_slices_rotateCmpFunc_int [.slice a n c, .int .i64 (x : Nat), .int .i64 (m : Nat), .int .i64 (y : Nat), fv] h fun v h' => v = .tuple ⟨[]⟩ ∧ ∃ ys, Own h' (slA kI ys a n c :: L) ∧ Re x y xs ys ∧
      (∀ k, x ≤ k → k < x + (y - m) → ys.getD k 0 = xs.getD (k + (m - x)) 0) ∧ ∀ k, x + (y - m) ≤ k → k < y → ys.getD k 0 = xs.getD (k - (y - m)) 0 := by
  refine calls_slices_rotateCmpFunc_int _ _ _ _ _ _ _ ?_
  unfold M_slices_rotateCmpFunc_int
  have ln := H.ln a n c
  have s1 : IntKind.i64.wrap ((m : Int) - (x : Int)) = ((m - x : Nat) : Int) := by rw [wrap64_of (by omega) (by omega)]; omega
  have s2 : IntKind.i64.wrap ((y : Int) - (m : Int)) = ((y - m : Nat) : Int) := by rw [wrap64_of (by omega) (by omega)]; omega
  rw [s1, s2]
  refine ⟨fun vs g => ∃ i j : Nat, vs = [.int .i64 i, .int .i64 j] ∧ 0 < i ∧ 0 < j ∧ i ≤ m - x ∧ j ≤ y - m ∧ ∃ zs T : List Int, Own g (slA kI zs a n c :: L) ∧ Re x y xs zs ∧
      (∀ k, x ≤ k → k < x + (y - m) → T.getD k 0 = xs.getD (k + (m - x)) 0) ∧ (∀ k, x + (y - m) ≤ k → k < y → T.getD k 0 = xs.getD (k - (y - m)) 0) ∧
      (∀ k, x ≤ k → k < m - i → zs.getD k 0 = T.getD k 0) ∧ (∀ k, m + j ≤ k → k < y → zs.getD k 0 = T.getD k 0) ∧
      (∀ k, m - i ≤ k → k < m - i + j → T.getD k 0 = zs.getD (k + i) 0) ∧ ∀ k, m - i + j ≤ k → k < m + j → T.getD k 0 = zs.getD (k - j) 0,
    fun vs _ => (ivOf vs 0 + ivOf vs 1).toNat, ?_, ?_⟩
  · let T : List Int := (List.range y).map fun k => if k < x + (y - m) then xs.getD (k + (m - x)) 0 else xs.getD (k - (y - m)) 0
    have hT : ∀ k, k < y → T.getD k 0 = if k < x + (y - m) then xs.getD (k + (m - x)) 0 else xs.getD (k - (y - m)) 0 := fun k hk => by
      rw [getD_of 0 (by simpa [T] using hk)]; simp [T]
    refine ⟨m - x, y - m, rfl, by omega, by omega, by omega, by omega, xs, T, H, Re.refl _ _ _, fun k k1 k2 => ?_, fun k k1 k2 => ?_, fun k k1 k2 => by omega, fun k k1 k2 => by omega, fun k k1 k2 => ?_, fun k k1 k2 => ?_⟩
    · rw [hT k (by omega), if_pos (by omega)]
    · rw [hT k (by omega), if_neg (by omega)]
    · rw [hT k (by omega), if_pos (by omega)]
    · rw [hT k (by omega), if_neg (by omega)]
  · rintro g x1 x2 ⟨i, j, hv, hi0, hj0, hi, hj, zs, T, H, re, t1, t2, z1, z2, w1, w2⟩
    simp at hv
    obtain ⟨rfl, rfl⟩ := hv
    have lzs := re.len
    have e1 : IntKind.i64.wrap ((m : Int) - (i : Int)) = ((m - i : Nat) : Int) := by rw [wrap64_of (by omega) (by omega)]; omega
    rw [e1]
    (refine br (fun hc => ?_) (fun hc => ?_) <;> (try simp only [decide_eq_true_eq, decide_eq_false_iff_not, beq_iff_eq, bne_iff_ne, ne_eq, Bool.not_eq_true', Bool.not_eq_false', Bool.not_eq_true, Bool.not_eq_false, beq_eq_false_iff_ne, bne_eq_false_iff_eq, Int.not_lt, Int.not_le, gt_iff_lt, ge_iff_le, Decidable.not_not] at hc))
    · (refine br (fun hc => ?_) (fun hc => ?_) <;> (try simp only [decide_eq_true_eq, decide_eq_false_iff_not, beq_iff_eq, bne_iff_ne, ne_eq, Bool.not_eq_true', Bool.not_eq_false', Bool.not_eq_true, Bool.not_eq_false, beq_eq_false_iff_ne, bne_eq_false_iff_eq, Int.not_lt, Int.not_le, gt_iff_lt, ge_iff_le, Decidable.not_not] at hc))
      · have hij : j < i := by omega
        refine (swapRange_ok (x := m - i) (y := m) (k := j) fv H (by omega) (by omega)).mono ?_
        rintro v g2 ⟨rfl, ys, H, re2, p1, p2⟩
        have e2 : IntKind.i64.wrap ((i : Int) - (j : Int)) = ((i - j : Nat) : Int) := by rw [wrap64_of (by omega) (by omega)]; omega
        rw [e2]
        refine ⟨rfl, ⟨i - j, j, rfl, by omega, by omega, by omega, by omega, ys, T, H, re.trans (re2.mono (by omega) (by omega)), t1, t2, fun k k1 k2 => ?_, fun k k1 k2 => ?_, fun k k1 k2 => ?_, fun k k1 k2 => ?_⟩, ?_⟩
        · by_cases hk : k < m - i
          · rw [re2.out k (by omega)]; exact z1 k k1 hk
          · have := (p1 (k - (m - i)) (by omega)).1
            rw [show m - i + (k - (m - i)) = k by omega, show m + (k - (m - i)) = k + i by omega] at this
            rw [this, w1 k (by omega) (by omega)]
        · rw [re2.out k (by omega)]; exact z2 k k1 k2
        · by_cases hk : k + (i - j) < m
          · rw [p2 (k + (i - j)) (by omega) hk]
            rw [w1 k (by omega) (by omega)]
            omega
          · have := (p1 (k + (i - j) - m) (by omega)).2
            rw [show m + (k + (i - j) - m) = k + (i - j) by omega, show m - i + (k + (i - j) - m) = k - j by omega] at this
            rw [this, w2 k (by omega) (by omega)]
        · rw [w2 k (by omega) (by omega), p2 (k - j) (by omega) (by omega)]
        · simp [ivOf]; omega
      · have hij : i < j := by omega
        have e3 : IntKind.i64.wrap (IntKind.i64.wrap ((m : Int) + (j : Int)) - (i : Int)) = ((m + j - i : Nat) : Int) := by rw [wrap64_of (n := (m : Int) + (j : Int)) (by omega) (by omega), wrap64_of (by omega) (by omega)]; omega
        rw [e3]
        refine (swapRange_ok (x := m - i) (y := m + j - i) (k := i) fv H (by omega) (by omega)).mono ?_
        rintro v g2 ⟨rfl, ys, H, re2, p1, p2⟩
        have e2 : IntKind.i64.wrap ((j : Int) - (i : Int)) = ((j - i : Nat) : Int) := by rw [wrap64_of (by omega) (by omega)]; omega
        rw [e2]
        refine ⟨rfl, ⟨i, j - i, rfl, by omega, by omega, by omega, by omega, ys, T, H, re.trans (re2.mono (by omega) (by omega)), t1, t2, fun k k1 k2 => ?_, fun k k1 k2 => ?_, fun k k1 k2 => ?_, fun k k1 k2 => ?_⟩, ?_⟩
        · rw [re2.out k (by omega)]; exact z1 k k1 k2
        · by_cases hk : m + j ≤ k
          · rw [re2.out k (by omega)]; exact z2 k hk k2
          · have := (p1 (k - (m + j - i)) (by omega)).2
            rw [show m + j - i + (k - (m + j - i)) = k by omega, show m - i + (k - (m + j - i)) = k - j by omega] at this
            rw [this, w2 k (by omega) (by omega)]
        · rw [w1 k (by omega) (by omega), p2 (k + i) (by omega) (by omega)]
        · by_cases hk : k < m - i + j
          · have hx := (p1 (k - (j - i) - (m - i)) (by omega)).1
            rw [show m - i + (k - (j - i) - (m - i)) = k - (j - i) by omega, show m + j - i + (k - (j - i) - (m - i)) = k + i by omega] at hx
            rw [hx, w1 k (by omega) (by omega)]
          · rw [w2 k (by omega) (by omega)]
            have := p2 (k - (j - i)) (by omega) (by omega)
            rw [this]
            omega
        · simp [ivOf]; omega
    · have hij : i = j := by omega
      subst hij
      refine (swapRange_ok (x := m - i) (y := m) (k := i) fv H (by omega) (by omega)).mono ?_
      rintro v g2 ⟨rfl, ys, H, re2, p1, p2⟩
      have fin : ∀ k, x ≤ k → k < y → ys.getD k 0 = T.getD k 0 := fun k k1 k2 => by
        by_cases h1 : k < m - i
        · rw [re2.out k (by omega)]; exact z1 k k1 h1
        · by_cases h2 : m + i ≤ k
          · rw [re2.out k (by omega)]; exact z2 k h2 k2
          · by_cases h3 : k < m
            · have := (p1 (k - (m - i)) (by omega)).1
              rw [show m - i + (k - (m - i)) = k by omega, show m + (k - (m - i)) = k + i by omega] at this
              rw [this, w1 k (by omega) (by omega)]
            · have := (p1 (k - m) (by omega)).2
              rw [show m + (k - m) = k by omega, show m - i + (k - m) = k - i by omega] at this
              rw [this, w2 k (by omega) (by omega)]
      exact ⟨rfl, rfl, ys, H, re.trans (re2.mono (by omega) (by omega)), fun k k1 k2 => (fin k k1 (by omega)).trans (t1 k k1 k2), fun k k1 k2 => (fin k (by omega) k2).trans (t2 k k1 k2)⟩
end
end Go.Proofs.Ytjmhahjmbmiepaa.D

namespace Go.Proofs.Ytjmhahjmbmiepaa.D
open Go
set_option linter.unusedVariables false
set_option linter.unusedSimpArgs false

/-- A comparison of numbers below N: less just where the first one's value is greater; all else stays. -/
structure CmpOk (N : Nat) (V : Int → Int) (f : FuncId) (kk : List Value) (a : Option Addr) (n c : Nat) (L : List Asn) : Prop where
  callable : Callable PP f
  run : ∀ h ys, Own h (slA kI ys a n c :: L) → ∀ x y : Int, 0 ≤ x ∧ x < N → 0 ≤ y ∧ y < N →
    CallsH PP f ([.int .i64 x, .int .i64 y] ++ kk) h fun v h' => ∃ d : Int, v = .int .i64 d ∧ (d < 0 ↔ V x > V y) ∧ Own h' (slA kI ys a n c :: L)

def InN (N : Nat) (xs : List Int) : Prop := ∀ x ∈ xs, 0 ≤ x ∧ x < (N : Int)
theorem InN.at {N : Nat} {xs : List Int} (h : InN N xs) {i : Nat} (hi : i < xs.length) : 0 ≤ xs.getD i 0 ∧ xs.getD i 0 < (N : Int) := by
  rw [getD_of 0 hi]; exact h _ (List.getElem_mem _)
theorem InN.re {N : Nat} {xs ys : List Int} (h : InN N xs) {a b : Nat} (r : Re a b xs ys) : InN N ys := fun x hx => h x (r.perm.mem_iff.1 hx)

section
variable {h : Heap} {L : List Asn} {a : Option Addr} {n c N : Nat} {xs : List Int} {V : Int → Int} {f : FuncId} {kk : List Value}
theorem insertionSort_ok {x y : Nat} (ck : CmpOk N V f kk a n c L) (H : Own h (slA kI xs a n c :: L)) (hin : InN N xs) (hxy : x ≤ y) (hy : y ≤ n) (asc : ∀ i j, x ≤ i → i < j → j < y → xs.getD i 0 < xs.getD j 0) :
    CallsH PP fn_slices_insertionSortCmpFunc_int [.slice a n c, .int .i64 (x : Nat), .int .i64 (y : Nat), .func (.func f) #[] ⟨kk⟩] h fun v h' => v = .tuple ⟨[]⟩ ∧ ∃ ys, Own h' (slA kI ys a n c :: L) ∧ Re x y xs ys ∧ Srt V x y ys := by
  refine calls_slices_insertionSortCmpFunc_int _ _ _ _ _ _ ?_
  unfold M_slices_insertionSortCmpFunc_int
  have ln := H.ln a n c
  rw [wrap_succ (i := x) (by omega)]
  refine ⟨fun vs g => ∃ i : Nat, vs = [.int .i64 i] ∧ x < i ∧ (i ≤ y ∨ i = x + 1) ∧ ∃ ys, Own g (slA kI ys a n c :: L) ∧ Re x (min i y) xs ys ∧ Srt V x (min i y) ys, fun vs _ => (y - ivOf vs 0).toNat,
    ⟨x + 1, rfl, by omega, by omega, xs, H, Re.refl _ _ _, fun i j h1 h2 h3 => by omega⟩, ?_⟩
  rintro g x1 ⟨i, hv, hi0, hi1, ys, H, re, st⟩
  simp at hv
  subst hv
  have lys := re.len
  (refine br (fun hc => ?_) (fun hc => ?_) <;> (try simp only [decide_eq_true_eq, decide_eq_false_iff_not, beq_iff_eq, bne_iff_ne, ne_eq, Bool.not_eq_true', Bool.not_eq_false', Bool.not_eq_true, Bool.not_eq_false, beq_eq_false_iff_ne, bne_eq_false_iff_eq, Int.not_lt, Int.not_le, gt_iff_lt, ge_iff_le, Decidable.not_not] at hc))
  · have hi : i < y := by omega
    rw [Nat.min_eq_left (by omega)] at re st
    -- what stands from i on is as it was, and greater than what stands before
    have low : ∀ k, x ≤ k → k < i → ys.getD k 0 < ys.getD i 0 := fun k k1 k2 => by
      obtain ⟨k', u1, u2, e⟩ := re.cl k k1 k2
      rw [e, re.out i (by omega)]
      exact asc k' i u1 u2 hi
    refine ⟨fun vs g => ∃ j : Nat, vs = [.int .i64 j] ∧ x ≤ j ∧ j ≤ i ∧ ∃ zs, Own g (slA kI zs a n c :: L) ∧ Re x (i + 1) xs zs ∧ (∀ k, x ≤ k → k ≤ i → k ≠ j → zs.getD k 0 < zs.getD j 0) ∧
        (∀ k l, x ≤ k → k < l → l ≤ i → k ≠ j → l ≠ j → bf V (zs.getD k 0) (zs.getD l 0)) ∧ ∀ l, j < l → l ≤ i → bf V (zs.getD j 0) (zs.getD l 0),
      fun vs _ => (ivOf vs 0).toNat,
      ⟨i, rfl, by omega, by omega, ys, H, re.mono (by omega) (by omega), fun k k1 k2 k3 => low k k1 (by omega), fun k l k1 k2 k3 k4 k5 => st k l k1 k2 (by omega), fun l l1 l2 => by omega⟩, ?_⟩
    rintro g2 x2 ⟨j, hv, hj0, hj1, zs, H, re2, q1, q2, q3⟩
    simp at hv
    subst hv
    have lzs := re2.len
    have hzin := hin.re re2
    (refine br (fun hc => ?_) (fun hc => ?_) <;> (try simp only [decide_eq_true_eq, decide_eq_false_iff_not, beq_iff_eq, bne_iff_ne, ne_eq, Bool.not_eq_true', Bool.not_eq_false', Bool.not_eq_true, Bool.not_eq_false, beq_eq_false_iff_ne, bne_eq_false_iff_eq, Int.not_lt, Int.not_le, gt_iff_lt, ge_iff_le, Decidable.not_not] at hc))
    · have hj : x < j := by omega
      have e1 : IntKind.i64.wrap ((j : Int) - 1) = ((j - 1 : Nat) : Int) := by rw [wrap64_of (by omega) (by omega)]; omega
      rw [e1]
      simp only [Int.toNat_natCast]
      refine SlR.nxI (H.rd a n c) (i := j) (by omega) fun b o r1 _ => ?_
      refine ⟨_, r1, ?_⟩
      refine SlR.nxI (H.rd a n c) (i := j - 1) (by omega) fun b o r2 _ => ?_
      refine ⟨_, r2, ?_⟩
      refine ⟨_, _, rfl, ck.callable, (ck.run _ _ H _ _ (hzin.at (by omega)) (hzin.at (by omega))).mono ?_⟩
      rintro v g3 ⟨d, rfl, hd, H⟩
      refine ⟨_, rfl, ?_⟩
      (refine br (fun hc => ?_) (fun hc => ?_) <;> (try simp only [decide_eq_true_eq, decide_eq_false_iff_not, beq_iff_eq, bne_iff_ne, ne_eq, Bool.not_eq_true', Bool.not_eq_false', Bool.not_eq_true, Bool.not_eq_false, beq_eq_false_iff_ne, bne_eq_false_iff_eq, Int.not_lt, Int.not_le, gt_iff_lt, ge_iff_le, Decidable.not_not] at hc))
      · have hb := hd.1 hc
        refine H.swap (p := j) (q := j - 1) (by omega) (by omega) fun g4 H => ?_
        have hg := sw_get (xs := zs) (p := j - 1) (q := j) (by omega) (by omega)
        refine ⟨⟨j - 1, rfl, by omega, by omega, _, H, re2.trans (Re.sw (by omega) (by omega) (by omega)), fun k k1 k2 k3 => ?_, fun k l k1 k2 k3 k4 k5 => ?_, fun l l1 l2 => ?_⟩, ?_⟩
        · have g0 := hg (j - 1)
          have gk := hg k
          rw [if_pos rfl] at g0
          rw [if_neg k3] at gk
          rw [g0, gk]
          by_cases e : k = j
          · rw [if_pos e]; exact q1 (j - 1) (by omega) (by omega) (by omega)
          · rw [if_neg e]; exact q1 k k1 k2 e
        · have gk := hg k
          have gl := hg l
          rw [if_neg k4] at gk
          rw [if_neg k5] at gl
          rw [gk, gl]
          by_cases e : k = j
          · rw [if_pos e, if_neg (by omega)]; exact q2 (j - 1) l (by omega) (by omega) k3 (by omega) (by omega)
          · rw [if_neg e]
            by_cases e2 : l = j
            · rw [if_pos e2]; exact q2 k (j - 1) k1 (by omega) (by omega) e (by omega)
            · rw [if_neg e2]; exact q2 k l k1 k2 k3 e e2
        · have g0 := hg (j - 1)
          have gl := hg l
          rw [if_pos rfl] at g0
          rw [if_neg (by omega)] at gl
          rw [g0, gl]
          by_cases e : l = j
          · rw [if_pos e]; exact .inl hb
          · rw [if_neg e]; exact q3 l (by omega) l2
        · simp [ivOf]; omega
      · have hb : ¬ V (zs.getD j 0) > V (zs.getD (j - 1) 0) := fun h => by have := hd.2 h; omega
        rw [wrap_succ (by omega)]
        have hlt := q1 (j - 1) (by omega) (by omega) (by omega)
        have h1 : bf V (zs.getD (j - 1) 0) (zs.getD j 0) := by unfold bf; omega
        refine ⟨⟨i + 1, rfl, by omega, by omega, zs, H, ?_, ?_⟩, ?_⟩
        · rw [Nat.min_eq_left (by omega)]; exact re2
        · rw [Nat.min_eq_left (by omega)]
          intro k l k1 k2 k3
          by_cases e : k = j
          · rw [e]; exact q3 l (by omega) (by omega)
          · by_cases e2 : l = j
            · rw [e2]
              by_cases e3 : k = j - 1
              · rw [e3]; exact h1
              · exact bf_trans (q2 k (j - 1) k1 (by omega) (by omega) e (by omega)) h1
            · exact q2 k l k1 k2 (by omega) e e2
        · simp [ivOf]; omega
    · have hjx : j = x := by omega
      subst hjx
      rw [wrap_succ (by omega)]
      refine ⟨⟨i + 1, rfl, by omega, by omega, zs, H, ?_, ?_⟩, ?_⟩
      · rw [Nat.min_eq_left (by omega)]; exact re2
      · rw [Nat.min_eq_left (by omega)]
        intro k l k1 k2 k3
        by_cases e : k = j
        · rw [e]; exact q3 l (by omega) (by omega)
        · exact q2 k l k1 k2 (by omega) e (by omega)
      · simp [ivOf]; omega
  · refine ⟨rfl, ys, H, re.mono (by omega) (by omega), fun k l k1 k2 k3 => st k l k1 k2 (by omega)⟩
end
end Go.Proofs.Ytjmhahjmbmiepaa.D

namespace Go.Proofs.Ytjmhahjmbmiepaa.D
open Go
set_option linter.unusedVariables false
set_option linter.unusedSimpArgs false

theorem Srt.low {V : Int → Int} {p q i j : Nat} {xs : List Int} (s : Srt V p q xs) (hi : p ≤ i) (hij : i ≤ j) (hj : j < q) {v : Int} (hv : bf V (xs.getD j 0) v) : bf V (xs.getD i 0) v := by
  by_cases e : i = j
  · rw [e]; exact hv
  · exact bf_trans (s i j hi (by omega) hj) hv
theorem Srt.up {V : Int → Int} {p q i j : Nat} {xs : List Int} (s : Srt V p q xs) (hi : p ≤ i) (hij : i ≤ j) (hj : j < q) {v : Int} (hv : bf V v (xs.getD i 0)) : bf V v (xs.getD j 0) := by
  by_cases e : i = j
  · rw [← e]; exact hv
  · exact bf_trans hv (s i j hi (by omega) hj)

/-- The plain law of the merge: behind the rotation all of the front comes before all of the back. -/
theorem merge_cross {V : Int → Int} {x m y mid st en : Nat} {z w : List Int} (h1 : Srt V x m z) (h2 : Srt V m y z) (he : en + st = mid + m) (hst : x ≤ st ∧ st ≤ m ∧ st ≤ mid) (hen : en ≤ y ∧ m ≤ en)
    (wA : ∀ k, x ≤ k → k < st → w.getD k 0 = z.getD k 0) (wB : ∀ k, st ≤ k → k < mid → w.getD k 0 = z.getD (k + (m - st)) 0)
    (wC : ∀ k, mid ≤ k → k < en → w.getD k 0 = z.getD (k - (en - m)) 0) (wD : ∀ k, en ≤ k → k < y → w.getD k 0 = z.getD k 0)
    (c1 : x < st → en < y → bf V (z.getD (st - 1) 0) (z.getD en 0)) (c2 : st < m → m < en → bf V (z.getD (en - 1) 0) (z.getD st 0)) :
    ∀ i j, x ≤ i → i < mid → mid ≤ j → j < y → bf V (w.getD i 0) (w.getD j 0) := by
  intro i j i1 i2 j1 j2
  by_cases hi : i < st
  · rw [wA i i1 hi]
    by_cases hj : j < en
    · rw [wC j j1 hj]; exact h1 _ _ i1 (by omega) (by omega)
    · rw [wD j (by omega) j2]
      exact h1.low i1 (j := st - 1) (by omega) (by omega) (h2.up (i := en) (by omega) (by omega) j2 (c1 (by omega) (by omega)))
  · rw [wB i (by omega) i2]
    by_cases hj : j < en
    · rw [wC j j1 hj]
      exact h2.low (by omega) (j := en - 1) (by omega) (by omega) (h1.up (i := st) (by omega) (by omega) (by omega) (c2 (by omega) (by omega)))
    · rw [wD j (by omega) j2]; exact h2 _ _ (by omega) (by omega) (by omega)
theorem merge_fin {V : Int → Int} {x y mid : Nat} {z w w2 w3 : List Int} (hmid : x ≤ mid ∧ mid ≤ y) (r : Re x y z w) (r2 : Re x mid w w2) (s2 : Srt V x mid w2) (r3 : Re mid y w2 w3) (s3 : Srt V mid y w3)
    (cr : ∀ i j, x ≤ i → i < mid → mid ≤ j → j < y → bf V (w.getD i 0) (w.getD j 0)) : Re x y z w3 ∧ Srt V x y w3 := by
  refine ⟨r.trans ((r2.mono (Nat.le_refl _) hmid.2).trans (r3.mono hmid.1 (Nat.le_refl _))), ?_⟩
  intro i j i1 ij j2
  by_cases hj : j < mid
  · rw [r3.out i (by omega), r3.out j (by omega)]; exact s2 i j i1 ij hj
  · by_cases hi : i < mid
    · rw [r3.out i (by omega)]
      obtain ⟨j', u1, u2, e⟩ := r3.cl j (by omega) j2
      obtain ⟨i', v1, v2, e'⟩ := r2.cl i i1 hi
      rw [e, e', r2.out j' (by omega)]
      exact cr i' j' v1 v2 u1 u2
    · exact s3 i j (by omega) ij j2
/-- What the two halves are, behind the rotation. -/
theorem merge_halves {V : Int → Int} {x m y mid st en : Nat} {z w : List Int} (h1 : Srt V x m z) (h2 : Srt V m y z) (asc : ∀ i j, x ≤ i → i < m → m ≤ j → j < y → z.getD i 0 < z.getD j 0) (he : en + st = mid + m) (hst : x ≤ st ∧ st ≤ m ∧ st ≤ mid) (hen : en ≤ y ∧ m ≤ en)
    (wA : ∀ k, x ≤ k → k < st → w.getD k 0 = z.getD k 0) (wB : ∀ k, st ≤ k → k < mid → w.getD k 0 = z.getD (k + (m - st)) 0)
    (wC : ∀ k, mid ≤ k → k < en → w.getD k 0 = z.getD (k - (en - m)) 0) (wD : ∀ k, en ≤ k → k < y → w.getD k 0 = z.getD k 0) :
    Srt V x st w ∧ Srt V st mid w ∧ Srt V mid en w ∧ Srt V en y w ∧ (∀ i j, x ≤ i → i < st → st ≤ j → j < mid → w.getD i 0 < w.getD j 0) ∧ ∀ i j, mid ≤ i → i < en → en ≤ j → j < y → w.getD i 0 < w.getD j 0 := by
  refine ⟨fun i j i1 ij j2 => ?_, fun i j i1 ij j2 => ?_, fun i j i1 ij j2 => ?_, fun i j i1 ij j2 => ?_, fun i j i1 i2 j1 j2 => ?_, fun i j i1 i2 j1 j2 => ?_⟩
  · rw [wA i i1 (by omega), wA j (by omega) j2]; exact h1 i j i1 ij (by omega)
  · rw [wB i i1 (by omega), wB j (by omega) j2]; exact h2 _ _ (by omega) (by omega) (by omega)
  · rw [wC i i1 (by omega), wC j (by omega) j2]; exact h1 _ _ (by omega) (by omega) (by omega)
  · rw [wD i i1 (by omega), wD j (by omega) j2]; exact h2 i j (by omega) ij j2
  · rw [wA i i1 i2, wB j j1 j2]; exact asc _ _ (by omega) (by omega) (by omega) (by omega)
  · rw [wC i i1 i2, wD j j1 j2]; exact asc _ _ (by omega) (by omega) (by omega) (by omega)
theorem Srt.one {V : Int → Int} {p q : Nat} {xs : List Int} (h : q ≤ p + 1) : Srt V p q xs := fun i j h1 h2 h3 => by omega
end Go.Proofs.Ytjmhahjmbmiepaa.D

namespace Go.Proofs.Ytjmhahjmbmiepaa.D
open Go
set_option linter.unusedVariables false
set_option linter.unusedSimpArgs false

section
variable {h : Heap} {L : List Asn} {a : Option Addr} {n c N : Nat} {xs : List Int} {V : Int → Int} {f : FuncId} {kk : List Value}
theorem symMerge_left {x m y : Nat} (ck : CmpOk N V f kk a n c L) (hxm : x < m) (hmy : m < y) (hy : y ≤ n) (H : Own h (slA kI xs a n c :: L)) (hin : InN N xs) (s1 : Srt V x m xs) (s2 : Srt V m y xs) (asc : ∀ i j, x ≤ i → i < m → m ≤ j → j < y → xs.getD i 0 < xs.getD j 0) (hm : m = x + 1) :
    CallsH PP fn_slices_symMergeCmpFunc_int [.slice a n c, .int .i64 (x : Nat), .int .i64 (m : Nat), .int .i64 (y : Nat), .func (.func f) #[] ⟨kk⟩] h fun v h' => v = .tuple ⟨[]⟩ ∧ ∃ ys, Own h' (slA kI ys a n c :: L) ∧ Re x y xs ys ∧ Srt V x y ys := by
  refine calls_slices_symMergeCmpFunc_int _ _ _ _ _ _ _ ?_
  unfold M_slices_symMergeCmpFunc_int
  have ln := H.ln a n c
  have e1 : IntKind.i64.wrap ((m : Int) - (x : Int)) = ((m - x : Nat) : Int) := by rw [wrap64_of (by omega) (by omega)]; omega
  have e2 : IntKind.i64.wrap ((y : Int) - (m : Int)) = ((y - m : Nat) : Int) := by rw [wrap64_of (by omega) (by omega)]; omega
  rw [e1, e2]
  (refine br (fun hc => ?_) (fun hc => ?_) <;> (try simp only [decide_eq_true_eq, decide_eq_false_iff_not, beq_iff_eq, bne_iff_ne, ne_eq, Bool.not_eq_true', Bool.not_eq_false', Bool.not_eq_true, Bool.not_eq_false, beq_eq_false_iff_ne, bne_eq_false_iff_eq, Int.not_lt, Int.not_le, gt_iff_lt, ge_iff_le, Decidable.not_not] at hc))
  · -- one to the left
    refine ⟨fun vs g => ∃ i j : Nat, vs = [.int .i64 i, .int .i64 j] ∧ m ≤ i ∧ i ≤ j ∧ j ≤ y ∧ Own g (slA kI xs a n c :: L) ∧ (∀ t, m ≤ t → t < i → bf V (xs.getD t 0) (xs.getD x 0)) ∧ ∀ t, j ≤ t → t < y → bf V (xs.getD x 0) (xs.getD t 0),
      fun vs _ => (ivOf vs 1 - ivOf vs 0).toNat, ⟨m, y, rfl, by omega, by omega, by omega, H, fun t _ _ => by omega, fun t _ _ => by omega⟩, ?_⟩
    rintro g x1 x2 ⟨i, j, hv, hi, hij, hj, H, lo, up⟩
    simp at hv
    obtain ⟨rfl, rfl⟩ := hv
    (refine br (fun hc => ?_) (fun hc => ?_) <;> (try simp only [decide_eq_true_eq, decide_eq_false_iff_not, beq_iff_eq, bne_iff_ne, ne_eq, Bool.not_eq_true', Bool.not_eq_false', Bool.not_eq_true, Bool.not_eq_false, beq_eq_false_iff_ne, bne_eq_false_iff_eq, Int.not_lt, Int.not_le, gt_iff_lt, ge_iff_le, Decidable.not_not] at hc))
    · have hlt : i < j := by omega
      rw [midI (by omega)]
      simp only [Int.toNat_natCast]
      refine ⟨by omega, ?_⟩
      refine SlR.nxI (H.rd a n c) (i := (i + j) / 2) (by omega) fun b o r1 _ => ?_
      refine ⟨_, r1, ?_⟩
      refine SlR.nxI (H.rd a n c) (i := x) (by omega) fun b o r2 _ => ?_
      refine ⟨_, r2, ?_⟩
      refine ⟨_, _, rfl, ck.callable, (ck.run _ _ H _ _ (hin.at (by omega)) (hin.at (by omega))).mono ?_⟩
      rintro v g3 ⟨d, rfl, hd, H⟩
      refine ⟨_, rfl, ?_⟩
      (refine br (fun hc => ?_) (fun hc => ?_) <;> (try simp only [decide_eq_true_eq, decide_eq_false_iff_not, beq_iff_eq, bne_iff_ne, ne_eq, Bool.not_eq_true', Bool.not_eq_false', Bool.not_eq_true, Bool.not_eq_false, beq_eq_false_iff_ne, bne_eq_false_iff_eq, Int.not_lt, Int.not_le, gt_iff_lt, ge_iff_le, Decidable.not_not] at hc))
      · have hb : bf V (xs.getD ((i + j) / 2) 0) (xs.getD x 0) := .inl (hd.1 hc)
        rw [wrap_succ (by omega)]
        refine ⟨⟨(i + j) / 2 + 1, j, rfl, by omega, by omega, hj, H, fun t t1 t2 => s2.low t1 (j := (i + j) / 2) (by omega) (by omega) hb, up⟩, ?_⟩
        simp [ivOf]; omega
      · have hb : ¬ V (xs.getD ((i + j) / 2) 0) > V (xs.getD x 0) := fun h => by have := hd.2 h; omega
        have hb : bf V (xs.getD x 0) (xs.getD ((i + j) / 2) 0) := by
          have := asc x ((i + j) / 2) (by omega) (by omega) (by omega) (by omega)
          unfold bf; omega
        refine ⟨⟨i, (i + j) / 2, rfl, by omega, by omega, by omega, H, lo, fun t t1 t2 => s2.up (i := (i + j) / 2) (by omega) t1 t2 hb⟩, ?_⟩
        simp [ivOf]; omega
    · have hie : j = i := by omega
      subst hie
      have e3 : IntKind.i64.wrap ((j : Int) - 1) = ((j - 1 : Nat) : Int) := by rw [wrap64_of (by omega) (by omega)]; omega
      rw [e3]
      refine ⟨fun vs g => ∃ k : Nat, vs = [.int .i64 k] ∧ x ≤ k ∧ k ≤ j - 1 ∧ ∃ zs, Own g (slA kI zs a n c :: L) ∧ Re x y xs zs ∧ (∀ t, x ≤ t → t < k → zs.getD t 0 = xs.getD (t + 1) 0) ∧ zs.getD k 0 = xs.getD x 0 ∧ ∀ t, k < t → t < y → zs.getD t 0 = xs.getD t 0,
        fun vs _ => (y - ivOf vs 0).toNat, ⟨x, rfl, by omega, by omega, xs, H, Re.refl _ _ _, fun t t1 t2 => by omega, rfl, fun t _ _ => rfl⟩, ?_⟩
      rintro g2 x3 ⟨k, hv, hk0, hk1, zs, H, re, q1, q2, q3⟩
      simp at hv
      subst hv
      have lzs := re.len
      (refine br (fun hc => ?_) (fun hc => ?_) <;> (try simp only [decide_eq_true_eq, decide_eq_false_iff_not, beq_iff_eq, bne_iff_ne, ne_eq, Bool.not_eq_true', Bool.not_eq_false', Bool.not_eq_true, Bool.not_eq_false, beq_eq_false_iff_ne, bne_eq_false_iff_eq, Int.not_lt, Int.not_le, gt_iff_lt, ge_iff_le, Decidable.not_not] at hc))
      · have hk : k + 1 < y := by omega
        rw [wrap_succ (by omega)]
        simp only [Int.toNat_natCast]
        refine H.swap (p := k) (q := k + 1) (by omega) (by omega) fun g4 H => ?_
        have hg := sw_get (xs := zs) (p := k + 1) (q := k) (by omega) (by omega)
        refine ⟨⟨k + 1, rfl, by omega, by omega, _, H, re.trans (Re.sw (by omega) (by omega) (by omega)), fun t t1 t2 => ?_, ?_, fun t t1 t2 => ?_⟩, ?_⟩
        · rw [hg, if_neg (by omega)]
          by_cases e : t = k
          · rw [if_pos e, e]; exact q3 (k + 1) (by omega) hk
          · rw [if_neg e]; exact q1 t t1 (by omega)
        · rw [hg, if_pos rfl]; exact q2
        · rw [hg, if_neg (by omega), if_neg (by omega)]; exact q3 t (by omega) t2
        · simp [ivOf]; omega
      · have hk : k = j - 1 := by omega
        refine ⟨rfl, zs, H, re, fun t u t1 tu u2 => ?_⟩
        by_cases hu : u < k
        · rw [q1 t t1 (by omega), q1 u (by omega) hu]; exact s2 _ _ (by omega) (by omega) (by omega)
        · by_cases hu2 : u = k
          · rw [q1 t t1 (by omega), hu2, q2]; exact lo _ (by omega) (by omega)
          · rw [q3 u (by omega) u2]
            by_cases ht : t < k
            · rw [q1 t t1 ht]; exact s2 _ _ (by omega) (by omega) u2
            · by_cases ht2 : t = k
              · rw [ht2, q2]; exact up _ (by omega) u2
              · rw [q3 t (by omega) (by omega)]; exact s2 _ _ (by omega) tu u2
  · exfalso; omega
theorem symMerge_right {x m y : Nat} (ck : CmpOk N V f kk a n c L) (hxm : x < m) (hmy : m < y) (hy : y ≤ n) (H : Own h (slA kI xs a n c :: L)) (hin : InN N xs) (s1 : Srt V x m xs) (s2 : Srt V m y xs) (asc : ∀ i j, x ≤ i → i < m → m ≤ j → j < y → xs.getD i 0 < xs.getD j 0) (hm1 : m ≠ x + 1) (hm : y = m + 1) :
    CallsH PP fn_slices_symMergeCmpFunc_int [.slice a n c, .int .i64 (x : Nat), .int .i64 (m : Nat), .int .i64 (y : Nat), .func (.func f) #[] ⟨kk⟩] h fun v h' => v = .tuple ⟨[]⟩ ∧ ∃ ys, Own h' (slA kI ys a n c :: L) ∧ Re x y xs ys ∧ Srt V x y ys := by
  refine calls_slices_symMergeCmpFunc_int _ _ _ _ _ _ _ ?_
  unfold M_slices_symMergeCmpFunc_int
  have ln := H.ln a n c
  have e1 : IntKind.i64.wrap ((m : Int) - (x : Int)) = ((m - x : Nat) : Int) := by rw [wrap64_of (by omega) (by omega)]; omega
  have e2 : IntKind.i64.wrap ((y : Int) - (m : Int)) = ((y - m : Nat) : Int) := by rw [wrap64_of (by omega) (by omega)]; omega
  rw [e1, e2]
  (refine br (fun hc => ?_) (fun hc => ?_) <;> (try simp only [decide_eq_true_eq, decide_eq_false_iff_not, beq_iff_eq, bne_iff_ne, ne_eq, Bool.not_eq_true', Bool.not_eq_false', Bool.not_eq_true, Bool.not_eq_false, beq_eq_false_iff_ne, bne_eq_false_iff_eq, Int.not_lt, Int.not_le, gt_iff_lt, ge_iff_le, Decidable.not_not] at hc))
  · exfalso; omega
  (refine br (fun hc => ?_) (fun hc => ?_) <;> (try simp only [decide_eq_true_eq, decide_eq_false_iff_not, beq_iff_eq, bne_iff_ne, ne_eq, Bool.not_eq_true', Bool.not_eq_false', Bool.not_eq_true, Bool.not_eq_false, beq_eq_false_iff_ne, bne_eq_false_iff_eq, Int.not_lt, Int.not_le, gt_iff_lt, ge_iff_le, Decidable.not_not] at hc))
  · -- one to the right
    refine ⟨fun vs g => ∃ i j : Nat, vs = [.int .i64 i, .int .i64 j] ∧ x ≤ i ∧ i ≤ j ∧ j ≤ m ∧ Own g (slA kI xs a n c :: L) ∧ (∀ t, x ≤ t → t < i → bf V (xs.getD t 0) (xs.getD m 0)) ∧ ∀ t, j ≤ t → t < m → bf V (xs.getD m 0) (xs.getD t 0),
      fun vs _ => (ivOf vs 1 - ivOf vs 0).toNat, ⟨x, m, rfl, by omega, by omega, by omega, H, fun t _ _ => by omega, fun t _ _ => by omega⟩, ?_⟩
    rintro g x1 x2 ⟨i, j, hv, hi, hij, hj, H, lo, up⟩
    simp at hv
    obtain ⟨rfl, rfl⟩ := hv
    (refine br (fun hc => ?_) (fun hc => ?_) <;> (try simp only [decide_eq_true_eq, decide_eq_false_iff_not, beq_iff_eq, bne_iff_ne, ne_eq, Bool.not_eq_true', Bool.not_eq_false', Bool.not_eq_true, Bool.not_eq_false, beq_eq_false_iff_ne, bne_eq_false_iff_eq, Int.not_lt, Int.not_le, gt_iff_lt, ge_iff_le, Decidable.not_not] at hc))
    · have hlt : i < j := by omega
      rw [midI (by omega)]
      simp only [Int.toNat_natCast]
      refine ⟨by omega, ?_⟩
      refine SlR.nxI (H.rd a n c) (i := m) (by omega) fun b o r1 _ => ?_
      refine ⟨_, r1, ?_⟩
      refine SlR.nxI (H.rd a n c) (i := (i + j) / 2) (by omega) fun b o r2 _ => ?_
      refine ⟨_, r2, ?_⟩
      refine ⟨_, _, rfl, ck.callable, (ck.run _ _ H _ _ (hin.at (by omega)) (hin.at (by omega))).mono ?_⟩
      rintro v g3 ⟨d, rfl, hd, H⟩
      refine ⟨_, rfl, ?_⟩
      (refine br (fun hc => ?_) (fun hc => ?_) <;> (try simp only [decide_eq_true_eq, decide_eq_false_iff_not, beq_iff_eq, bne_iff_ne, ne_eq, Bool.not_eq_true', Bool.not_eq_false', Bool.not_eq_true, Bool.not_eq_false, beq_eq_false_iff_ne, bne_eq_false_iff_eq, Int.not_lt, Int.not_le, gt_iff_lt, ge_iff_le, Decidable.not_not] at hc))
      · have hb : ¬ V (xs.getD m 0) > V (xs.getD ((i + j) / 2) 0) := fun h => by have := hd.2 h; omega
        have hb : bf V (xs.getD ((i + j) / 2) 0) (xs.getD m 0) := by
          have := asc ((i + j) / 2) m (by omega) (by omega) (by omega) (by omega)
          unfold bf; omega
        rw [wrap_succ (by omega)]
        refine ⟨⟨(i + j) / 2 + 1, j, rfl, by omega, by omega, hj, H, fun t t1 t2 => s1.low t1 (j := (i + j) / 2) (by omega) (by omega) hb, up⟩, ?_⟩
        simp [ivOf]; omega
      · have hb : bf V (xs.getD m 0) (xs.getD ((i + j) / 2) 0) := .inl (hd.1 (by omega))
        refine ⟨⟨i, (i + j) / 2, rfl, by omega, by omega, by omega, H, lo, fun t t1 t2 => s1.up (i := (i + j) / 2) (by omega) t1 t2 hb⟩, ?_⟩
        simp [ivOf]; omega
    · have hie : j = i := by omega
      subst hie
      refine ⟨fun vs g => ∃ k : Nat, vs = [.int .i64 k] ∧ j ≤ k ∧ k ≤ m ∧ ∃ zs, Own g (slA kI zs a n c :: L) ∧ Re x y xs zs ∧ (∀ t, k < t → t ≤ m → zs.getD t 0 = xs.getD (t - 1) 0) ∧ zs.getD k 0 = xs.getD m 0 ∧ ∀ t, x ≤ t → t < k → zs.getD t 0 = xs.getD t 0,
        fun vs _ => (ivOf vs 0).toNat, ⟨m, rfl, by omega, by omega, xs, H, Re.refl _ _ _, fun t t1 t2 => by omega, rfl, fun t _ _ => rfl⟩, ?_⟩
      rintro g2 x3 ⟨k, hv, hk0, hk1, zs, H, re, q1, q2, q3⟩
      simp at hv
      subst hv
      have lzs := re.len
      (refine br (fun hc => ?_) (fun hc => ?_) <;> (try simp only [decide_eq_true_eq, decide_eq_false_iff_not, beq_iff_eq, bne_iff_ne, ne_eq, Bool.not_eq_true', Bool.not_eq_false', Bool.not_eq_true, Bool.not_eq_false, beq_eq_false_iff_ne, bne_eq_false_iff_eq, Int.not_lt, Int.not_le, gt_iff_lt, ge_iff_le, Decidable.not_not] at hc))
      · have hk : j < k := by omega
        have e3 : IntKind.i64.wrap ((k : Int) - 1) = ((k - 1 : Nat) : Int) := by rw [wrap64_of (by omega) (by omega)]; omega
        rw [e3]
        simp only [Int.toNat_natCast]
        refine H.swap (p := k) (q := k - 1) (by omega) (by omega) fun g4 H => ?_
        have hg := sw_get (xs := zs) (p := k - 1) (q := k) (by omega) (by omega)
        refine ⟨⟨k - 1, rfl, by omega, by omega, _, H, re.trans (Re.sw (by omega) (by omega) (by omega)), fun t t1 t2 => ?_, ?_, fun t t1 t2 => ?_⟩, ?_⟩
        · rw [hg, if_neg (by omega)]
          by_cases e : t = k
          · rw [if_pos e, e]; exact q3 (k - 1) (by omega) (by omega)
          · rw [if_neg e]; exact q1 t (by omega) t2
        · rw [hg, if_pos rfl]; exact q2
        · rw [hg, if_neg (by omega), if_neg (by omega)]; exact q3 t t1 (by omega)
        · simp [ivOf]; omega
      · have hk : k = j := by omega
        refine ⟨rfl, zs, H, re, fun t u t1 tu u2 => ?_⟩
        by_cases ht : k < t
        · rw [q1 t ht (by omega), q1 u (by omega) (by omega)]; exact s1 _ _ (by omega) (by omega) (by omega)
        · by_cases ht2 : t = k
          · rw [ht2, q2, q1 u (by omega) (by omega)]; exact up _ (by omega) (by omega)
          · rw [q3 t t1 (by omega)]
            by_cases hu : u < k
            · rw [q3 u (by omega) hu]; exact s1 _ _ t1 tu (by omega)
            · by_cases hu2 : u = k
              · rw [hu2, q2]; exact lo _ t1 (by omega)
              · rw [q1 u (by omega) (by omega)]; exact s1 _ _ t1 (by omega) (by omega)
  · exfalso; omega
set_option maxHeartbeats 2000000 in
theorem symMerge_both {x m y sz : Nat} (ck : CmpOk N V f kk a n c L) (ih : (∀ (x m y : Nat) (h : Heap) (xs : List Int), y - x ≤ sz → x < m → m < y → y ≤ n → Own h (slA kI xs a n c :: L) → InN N xs → Srt V x m xs → Srt V m y xs → (∀ i j, x ≤ i → i < m → m ≤ j → j < y → xs.getD i 0 < xs.getD j 0) →
    CallsH PP fn_slices_symMergeCmpFunc_int [.slice a n c, .int .i64 (x : Nat), .int .i64 (m : Nat), .int .i64 (y : Nat), .func (.func f) #[] ⟨kk⟩] h fun v h' => v = .tuple ⟨[]⟩ ∧ ∃ ys, Own h' (slA kI ys a n c :: L) ∧ Re x y xs ys ∧ Srt V x y ys)) (hsz : y - x ≤ sz + 1) (hxm : x < m) (hmy : m < y) (hy : y ≤ n) (H : Own h (slA kI xs a n c :: L)) (hin : InN N xs) (s1 : Srt V x m xs) (s2 : Srt V m y xs) (asc : ∀ i j, x ≤ i → i < m → m ≤ j → j < y → xs.getD i 0 < xs.getD j 0) (hm1 : m ≠ x + 1) (hm2 : y ≠ m + 1) :
    CallsH PP fn_slices_symMergeCmpFunc_int [.slice a n c, .int .i64 (x : Nat), .int .i64 (m : Nat), .int .i64 (y : Nat), .func (.func f) #[] ⟨kk⟩] h fun v h' => v = .tuple ⟨[]⟩ ∧ ∃ ys, Own h' (slA kI ys a n c :: L) ∧ Re x y xs ys ∧ Srt V x y ys := by
  refine calls_slices_symMergeCmpFunc_int _ _ _ _ _ _ _ ?_
  unfold M_slices_symMergeCmpFunc_int
  have ln := H.ln a n c
  have e1 : IntKind.i64.wrap ((m : Int) - (x : Int)) = ((m - x : Nat) : Int) := by rw [wrap64_of (by omega) (by omega)]; omega
  have e2 : IntKind.i64.wrap ((y : Int) - (m : Int)) = ((y - m : Nat) : Int) := by rw [wrap64_of (by omega) (by omega)]; omega
  rw [e1, e2]
  (refine br (fun hc => ?_) (fun hc => ?_) <;> (try simp only [decide_eq_true_eq, decide_eq_false_iff_not, beq_iff_eq, bne_iff_ne, ne_eq, Bool.not_eq_true', Bool.not_eq_false', Bool.not_eq_true, Bool.not_eq_false, beq_eq_false_iff_ne, bne_eq_false_iff_eq, Int.not_lt, Int.not_le, gt_iff_lt, ge_iff_le, Decidable.not_not] at hc))
  · exfalso; omega
  (refine br (fun hc => ?_) (fun hc => ?_) <;> (try simp only [decide_eq_true_eq, decide_eq_false_iff_not, beq_iff_eq, bne_iff_ne, ne_eq, Bool.not_eq_true', Bool.not_eq_false', Bool.not_eq_true, Bool.not_eq_false, beq_eq_false_iff_ne, bne_eq_false_iff_eq, Int.not_lt, Int.not_le, gt_iff_lt, ge_iff_le, Decidable.not_not] at hc))
  · exfalso; omega
  -- two and more on both sides
  rw [midI (i := x) (j := y) (by omega)]
  generalize hmid : (x + y) / 2 = mid
  have e3 : IntKind.i64.wrap ((mid : Int) + (m : Int)) = ((mid + m : Nat) : Int) := by rw [wrap64_of (by omega) (by omega)]; omega
  have e4 : IntKind.i64.wrap (((mid + m : Nat) : Int) - 1) = ((mid + m - 1 : Nat) : Int) := by rw [wrap64_of (by omega) (by omega)]; omega
  rw [e3, e4]
  refine ⟨by omega, ?_⟩
  intro K hK
  have key : ∀ st r : Nat, st ≤ r → x ≤ st → r ≤ m → r ≤ mid → mid + m - st ≤ y → m ≤ mid + m - r → (x < st → y ≤ mid + m - st) → (r < m → mid + m - r ≤ m) → K [.int .i64 st, .int .i64 r] h := by
    intro st0 r0 k1 k2 k3 k4 k5 k6 k7 k8
    refine hK _ _ _ ?_
    refine ⟨fun vs g => ∃ i j : Nat, vs = [.int .i64 i, .int .i64 j] ∧ st0 ≤ i ∧ i ≤ j ∧ j ≤ r0 ∧ Own g (slA kI xs a n c :: L) ∧ (st0 < i → bf V (xs.getD (i - 1) 0) (xs.getD (mid + m - i) 0)) ∧ (j < r0 → bf V (xs.getD (mid + m - 1 - j) 0) (xs.getD j 0)),
      fun vs _ => (ivOf vs 1 - ivOf vs 0).toNat, ⟨st0, r0, rfl, by omega, by omega, by omega, H, fun _ => by omega, fun _ => by omega⟩, ?_⟩
    rintro g x1 x2 ⟨i, j, hv, hi, hij, hj, H, lo, up⟩
    simp at hv
    obtain ⟨rfl, rfl⟩ := hv
    (refine br (fun hc => ?_) (fun hc => ?_) <;> (try simp only [decide_eq_true_eq, decide_eq_false_iff_not, beq_iff_eq, bne_iff_ne, ne_eq, Bool.not_eq_true', Bool.not_eq_false', Bool.not_eq_true, Bool.not_eq_false, beq_eq_false_iff_ne, bne_eq_false_iff_eq, Int.not_lt, Int.not_le, gt_iff_lt, ge_iff_le, Decidable.not_not] at hc))
    · have hlt : i < j := by omega
      rw [midI (by omega)]
      have e5 : IntKind.i64.wrap (((mid + m - 1 : Nat) : Int) - (((i + j) / 2 : Nat) : Int)) = ((mid + m - 1 - (i + j) / 2 : Nat) : Int) := by rw [wrap64_of (by omega) (by omega)]; omega
      rw [e5]
      simp only [Int.toNat_natCast]
      refine ⟨by omega, ?_⟩
      refine SlR.nxI (H.rd a n c) (i := mid + m - 1 - (i + j) / 2) (by omega) fun b o r1 _ => ?_
      refine ⟨_, r1, ?_⟩
      refine SlR.nxI (H.rd a n c) (i := (i + j) / 2) (by omega) fun b o r2 _ => ?_
      refine ⟨_, r2, ?_⟩
      refine ⟨_, _, rfl, ck.callable, (ck.run _ _ H _ _ (hin.at (by omega)) (hin.at (by omega))).mono ?_⟩
      rintro v g3 ⟨d, rfl, hd, H⟩
      refine ⟨_, rfl, ?_⟩
      (refine br (fun hc => ?_) (fun hc => ?_) <;> (try simp only [decide_eq_true_eq, decide_eq_false_iff_not, beq_iff_eq, bne_iff_ne, ne_eq, Bool.not_eq_true', Bool.not_eq_false', Bool.not_eq_true, Bool.not_eq_false, beq_eq_false_iff_ne, bne_eq_false_iff_eq, Int.not_lt, Int.not_le, gt_iff_lt, ge_iff_le, Decidable.not_not] at hc))
      · have hb : ¬ V (xs.getD (mid + m - 1 - (i + j) / 2) 0) > V (xs.getD ((i + j) / 2) 0) := fun h => by have := hd.2 h; omega
        have hb : bf V (xs.getD ((i + j) / 2) 0) (xs.getD (mid + m - 1 - (i + j) / 2) 0) := by
          have := asc ((i + j) / 2) (mid + m - 1 - (i + j) / 2) (by omega) (by omega) (by omega) (by omega)
          unfold bf; omega
        rw [wrap_succ (by omega)]
        refine ⟨⟨(i + j) / 2 + 1, j, rfl, by omega, by omega, hj, H, fun _ => ?_, up⟩, ?_⟩
        · rw [show (i + j) / 2 + 1 - 1 = (i + j) / 2 by omega, show mid + m - ((i + j) / 2 + 1) = mid + m - 1 - (i + j) / 2 by omega]; exact hb
        · simp [ivOf]; omega
      · have hb : bf V (xs.getD (mid + m - 1 - (i + j) / 2) 0) (xs.getD ((i + j) / 2) 0) := .inl (hd.1 (by omega))
        refine ⟨⟨i, (i + j) / 2, rfl, by omega, by omega, by omega, H, lo, fun _ => hb⟩, ?_⟩
        simp [ivOf]; omega
    · have hie : j = i := by omega
      subst hie
      have e5 : IntKind.i64.wrap (((mid + m : Nat) : Int) - (j : Int)) = ((mid + m - j : Nat) : Int) := by rw [wrap64_of (by omega) (by omega)]; omega
      rw [e5]
      generalize hen : mid + m - j = en at *
      intro K2 hK2
      have key2 : ∀ g ws, Own g (slA kI ws a n c :: L) → Re x y xs ws → (∀ k, x ≤ k → k < j → ws.getD k 0 = xs.getD k 0) → (∀ k, j ≤ k → k < mid → ws.getD k 0 = xs.getD (k + (m - j)) 0) →
          (∀ k, mid ≤ k → k < en → ws.getD k 0 = xs.getD (k - (en - m)) 0) → (∀ k, en ≤ k → k < y → ws.getD k 0 = xs.getD k 0) → K2 [] g := by
        intro g ws H re wA wB wC wD
        refine hK2 _ ?_
        have cr := merge_cross s1 s2 (mid := mid) (st := j) (en := en) (by omega) (by omega) (by omega) wA wB wC wD
          (fun h1 h2 => lo (by omega)) (fun h1 h2 => by have := up (by omega); rwa [show mid + m - 1 - j = en - 1 by omega] at this)
        obtain ⟨t1, t2, t3, t4, t5, t6⟩ := merge_halves s1 s2 asc (mid := mid) (st := j) (en := en) (by omega) (by omega) (by omega) wA wB wC wD
        have hwin := hin.re re
        have second : ∀ g2 w2, Own g2 (slA kI w2 a n c :: L) → Re x mid ws w2 → Srt V x mid w2 → mid < en → en < y →
            CallsH PP fn_slices_symMergeCmpFunc_int [.slice a n c, .int .i64 (mid : Nat), .int .i64 (en : Nat), .int .i64 (y : Nat), .func (.func f) #[] ⟨kk⟩] g2 fun v h' => v = .tuple ⟨[]⟩ ∧ ∃ ys, Own h' (slA kI ys a n c :: L) ∧ Re x y xs ys ∧ Srt V x y ys := by
          intro g2 w2 H r2 sr2 b1 b2
          refine (ih mid en y g2 w2 (by omega) b1 b2 hy H (hwin.re r2) (fun i j i1 ij j2 => ?_) (fun i j i1 ij j2 => ?_) (fun i j i1 i2 j1 j2 => ?_)).mono ?_
          · rw [r2.out i (by omega), r2.out j (by omega)]; exact t3 i j i1 ij j2
          · rw [r2.out i (by omega), r2.out j (by omega)]; exact t4 i j i1 ij j2
          · rw [r2.out i (by omega), r2.out j (by omega)]; exact t6 i j i1 i2 j1 j2
          · rintro v h' ⟨rfl, ys, H, r3, s3⟩
            obtain ⟨f1, f2⟩ := merge_fin (by omega) re r2 sr2 r3 s3 cr
            exact ⟨rfl, ys, H, f1, f2⟩
        have none2 : ∀ g2 w2, Own g2 (slA kI w2 a n c :: L) → Re x mid ws w2 → Srt V x mid w2 → ¬ (mid < en ∧ en < y) → ∃ ys, Own g2 (slA kI ys a n c :: L) ∧ Re x y xs ys ∧ Srt V x y ys := by
          intro g2 w2 H r2 sr2 b
          have sb : Srt V mid y w2 := fun i k i1 ik k2 => by
            rw [r2.out i (by omega), r2.out k (by omega)]
            by_cases h1 : mid < en
            · exact t3 i k i1 ik (by omega)
            · exact t4 i k (by omega) ik k2
          obtain ⟨f1, f2⟩ := merge_fin (by omega) re r2 sr2 (Re.refl mid y w2) sb cr
          exact ⟨w2, H, f1, f2⟩
        have sa : ¬ (x < j ∧ j < mid) → Srt V x mid ws := fun b i k i1 ik k2 => by
          by_cases h1 : x < j
          · exact t1 i k i1 ik (by omega)
          · exact t2 i k (by omega) ik k2
        (refine br (fun hc => ?_) (fun hc => ?_) <;> (try simp only [decide_eq_true_eq, decide_eq_false_iff_not, beq_iff_eq, bne_iff_ne, ne_eq, Bool.not_eq_true', Bool.not_eq_false', Bool.not_eq_true, Bool.not_eq_false, beq_eq_false_iff_ne, bne_eq_false_iff_eq, Int.not_lt, Int.not_le, gt_iff_lt, ge_iff_le, Decidable.not_not] at hc))
        · (refine br (fun hc => ?_) (fun hc => ?_) <;> (try simp only [decide_eq_true_eq, decide_eq_false_iff_not, beq_iff_eq, bne_iff_ne, ne_eq, Bool.not_eq_true', Bool.not_eq_false', Bool.not_eq_true, Bool.not_eq_false, beq_eq_false_iff_ne, bne_eq_false_iff_eq, Int.not_lt, Int.not_le, gt_iff_lt, ge_iff_le, Decidable.not_not] at hc))
          · refine (ih x j mid g ws (by omega) (by omega) (by omega) (by omega) H hwin t1 t2 t5).mono ?_
            rintro v g2 ⟨rfl, w2, H, r2, sr2⟩
            refine ⟨rfl, ?_⟩
            (refine br (fun hc => ?_) (fun hc => ?_) <;> (try simp only [decide_eq_true_eq, decide_eq_false_iff_not, beq_iff_eq, bne_iff_ne, ne_eq, Bool.not_eq_true', Bool.not_eq_false', Bool.not_eq_true, Bool.not_eq_false, beq_eq_false_iff_ne, bne_eq_false_iff_eq, Int.not_lt, Int.not_le, gt_iff_lt, ge_iff_le, Decidable.not_not] at hc))
            · (refine br (fun hc => ?_) (fun hc => ?_) <;> (try simp only [decide_eq_true_eq, decide_eq_false_iff_not, beq_iff_eq, bne_iff_ne, ne_eq, Bool.not_eq_true', Bool.not_eq_false', Bool.not_eq_true, Bool.not_eq_false, beq_eq_false_iff_ne, bne_eq_false_iff_eq, Int.not_lt, Int.not_le, gt_iff_lt, ge_iff_le, Decidable.not_not] at hc))
              · refine (second g2 w2 H r2 sr2 (by omega) (by omega)).mono ?_
                rintro v g3 ⟨rfl, r⟩
                exact ⟨rfl, rfl, r⟩
              · exact ⟨rfl, none2 g2 w2 H r2 sr2 (by omega)⟩
            · exact ⟨rfl, none2 g2 w2 H r2 sr2 (by omega)⟩
          · have sx := sa (by omega)
            (refine br (fun hc => ?_) (fun hc => ?_) <;> (try simp only [decide_eq_true_eq, decide_eq_false_iff_not, beq_iff_eq, bne_iff_ne, ne_eq, Bool.not_eq_true', Bool.not_eq_false', Bool.not_eq_true, Bool.not_eq_false, beq_eq_false_iff_ne, bne_eq_false_iff_eq, Int.not_lt, Int.not_le, gt_iff_lt, ge_iff_le, Decidable.not_not] at hc))
            · (refine br (fun hc => ?_) (fun hc => ?_) <;> (try simp only [decide_eq_true_eq, decide_eq_false_iff_not, beq_iff_eq, bne_iff_ne, ne_eq, Bool.not_eq_true', Bool.not_eq_false', Bool.not_eq_true, Bool.not_eq_false, beq_eq_false_iff_ne, bne_eq_false_iff_eq, Int.not_lt, Int.not_le, gt_iff_lt, ge_iff_le, Decidable.not_not] at hc))
              · refine (second g ws H (Re.refl _ _ _) sx (by omega) (by omega)).mono ?_
                rintro v g3 ⟨rfl, r⟩
                exact ⟨rfl, rfl, r⟩
              · exact ⟨rfl, none2 g ws H (Re.refl _ _ _) sx (by omega)⟩
            · exact ⟨rfl, none2 g ws H (Re.refl _ _ _) sx (by omega)⟩
        · have sx := sa (by omega)
          (refine br (fun hc => ?_) (fun hc => ?_) <;> (try simp only [decide_eq_true_eq, decide_eq_false_iff_not, beq_iff_eq, bne_iff_ne, ne_eq, Bool.not_eq_true', Bool.not_eq_false', Bool.not_eq_true, Bool.not_eq_false, beq_eq_false_iff_ne, bne_eq_false_iff_eq, Int.not_lt, Int.not_le, gt_iff_lt, ge_iff_le, Decidable.not_not] at hc))
          · (refine br (fun hc => ?_) (fun hc => ?_) <;> (try simp only [decide_eq_true_eq, decide_eq_false_iff_not, beq_iff_eq, bne_iff_ne, ne_eq, Bool.not_eq_true', Bool.not_eq_false', Bool.not_eq_true, Bool.not_eq_false, beq_eq_false_iff_ne, bne_eq_false_iff_eq, Int.not_lt, Int.not_le, gt_iff_lt, ge_iff_le, Decidable.not_not] at hc))
            · refine (second g ws H (Re.refl _ _ _) sx (by omega) (by omega)).mono ?_
              rintro v g3 ⟨rfl, r⟩
              exact ⟨rfl, rfl, r⟩
            · exact ⟨rfl, none2 g ws H (Re.refl _ _ _) sx (by omega)⟩
          · exact ⟨rfl, none2 g ws H (Re.refl _ _ _) sx (by omega)⟩
      have same : ¬ (j < m ∧ m < en) → K2 [] g := fun b => key2 g xs H (Re.refl _ _ _) (fun _ _ _ => rfl) (fun k k1 k2 => by rw [show k + (m - j) = k by omega]) (fun k k1 k2 => by rw [show k - (en - m) = k by omega]) (fun _ _ _ => rfl)
      (refine br (fun hc => ?_) (fun hc => ?_) <;> (try simp only [decide_eq_true_eq, decide_eq_false_iff_not, beq_iff_eq, bne_iff_ne, ne_eq, Bool.not_eq_true', Bool.not_eq_false', Bool.not_eq_true, Bool.not_eq_false, beq_eq_false_iff_ne, bne_eq_false_iff_eq, Int.not_lt, Int.not_le, gt_iff_lt, ge_iff_le, Decidable.not_not] at hc))
      · (refine br (fun hc => ?_) (fun hc => ?_) <;> (try simp only [decide_eq_true_eq, decide_eq_false_iff_not, beq_iff_eq, bne_iff_ne, ne_eq, Bool.not_eq_true', Bool.not_eq_false', Bool.not_eq_true, Bool.not_eq_false, beq_eq_false_iff_ne, bne_eq_false_iff_eq, Int.not_lt, Int.not_le, gt_iff_lt, ge_iff_le, Decidable.not_not] at hc))
        · refine (rotate_ok _ H (by omega) (by omega) (by omega)).mono ?_
          rintro v g2 ⟨rfl, ws, H, re, w1, w2⟩
          refine ⟨rfl, key2 g2 ws H (re.mono (by omega) (by omega)) (fun k k1 k2 => re.out k (by omega)) (fun k k1 k2 => w1 k k1 (by omega)) (fun k k1 k2 => w2 k (by omega) k2) (fun k k1 k2 => re.out k (by omega))⟩
        · exact same (by omega)
      · exact same (by omega)
  (refine br (fun hc => ?_) (fun hc => ?_) <;> (try simp only [decide_eq_true_eq, decide_eq_false_iff_not, beq_iff_eq, bne_iff_ne, ne_eq, Bool.not_eq_true', Bool.not_eq_false', Bool.not_eq_true, Bool.not_eq_false, beq_eq_false_iff_ne, bne_eq_false_iff_eq, Int.not_lt, Int.not_le, gt_iff_lt, ge_iff_le, Decidable.not_not] at hc))
  · have e6 : IntKind.i64.wrap (((mid + m : Nat) : Int) - (y : Int)) = ((mid + m - y : Nat) : Int) := by rw [wrap64_of (by omega) (by omega)]; omega
    rw [e6]
    exact key _ _ (by omega) (by omega) (by omega) (by omega) (by omega) (by omega) (by omega) (by omega)
  · exact key _ _ (by omega) (by omega) (by omega) (by omega) (by omega) (by omega) (by omega) (by omega)
theorem symMerge_ok (ck : CmpOk N V f kk a n c L) : ∀ (sz x m y : Nat) (h : Heap) (xs : List Int), y - x ≤ sz → x < m → m < y → y ≤ n → Own h (slA kI xs a n c :: L) → InN N xs → Srt V x m xs → Srt V m y xs → (∀ i j, x ≤ i → i < m → m ≤ j → j < y → xs.getD i 0 < xs.getD j 0) →
    CallsH PP fn_slices_symMergeCmpFunc_int [.slice a n c, .int .i64 (x : Nat), .int .i64 (m : Nat), .int .i64 (y : Nat), .func (.func f) #[] ⟨kk⟩] h fun v h' => v = .tuple ⟨[]⟩ ∧ ∃ ys, Own h' (slA kI ys a n c :: L) ∧ Re x y xs ys ∧ Srt V x y ys := by
  intro sz
  induction sz with
  | zero => intro x m y h xs h1 h2 h3; omega
  | succ sz ih =>
  intro x m y h xs hsz hxm hmy hy H hin s1 s2 asc
  by_cases h1 : m = x + 1
  · exact symMerge_left ck hxm hmy hy H hin s1 s2 asc h1
  · by_cases h2 : y = m + 1
    · exact symMerge_right ck hxm hmy hy H hin s1 s2 asc h1 h2
    · exact symMerge_both ck ih hsz hxm hmy hy H hin s1 s2 asc h1 h2
end
end Go.Proofs.Ytjmhahjmbmiepaa.D

namespace Go.Proofs.Ytjmhahjmbmiepaa.D
open Go
set_option linter.unusedVariables false
set_option linter.unusedSimpArgs false

section
variable {h : Heap} {L : List Asn} {a : Option Addr} {n c N : Nat} {xs : List Int} {V : Int → Int} {f : FuncId} {kk : List Value}
theorem blk_re {zs ys : List Int} {x y n : Nat} (hb : ∀ k, k < n → (20 * (k / 20) : Nat) ≤ zs.getD k 0 ∧ zs.getD k 0 < (20 * (k / 20) + 20 : Nat)) (r : Re x y zs ys) (hx : x % 20 = 0) (hy : y ≤ x + 20) (hyn : y ≤ n) :
    ∀ k, k < n → (20 * (k / 20) : Nat) ≤ ys.getD k 0 ∧ ys.getD k 0 < (20 * (k / 20) + 20 : Nat) := by
  intro k hk
  by_cases h : x ≤ k ∧ k < y
  · obtain ⟨k', u1, u2, e⟩ := r.cl k h.1 h.2
    have := hb k' (by omega)
    rw [e, show k / 20 = k' / 20 by omega]
    exact this
  · rw [r.out k (by omega)]; exact hb k hk
theorem stable_ok (ck : CmpOk N V f kk a n c L) (H : Own h (slA kI xs a n c :: L)) (hin : InN N xs) (hn : n ≤ 40) (hid : ∀ k, k < n → xs.getD k 0 = k) :
    CallsH PP fn_slices_stableCmpFunc_int [.slice a n c, .int .i64 (n : Nat), .func (.func f) #[] ⟨kk⟩] h fun v h' => v = .tuple ⟨[]⟩ ∧ ∃ ys, Own h' (slA kI ys a n c :: L) ∧ Re 0 n xs ys ∧ Srt V 0 n ys := by
  refine calls_slices_stableCmpFunc_int _ _ _ _ _ ?_
  unfold M_slices_stableCmpFunc_int
  have ln := H.ln a n c
  refine ⟨fun vs g => ∃ t : Nat, vs = [.int .i64 (20 * t : Nat), .int .i64 (20 * t + 20 : Nat)] ∧ 20 * t ≤ n ∧ ∃ zs, Own g (slA kI zs a n c :: L) ∧ Re 0 n xs zs ∧
      (∀ k, k < n → (20 * (k / 20) : Nat) ≤ zs.getD k 0 ∧ zs.getD k 0 < (20 * (k / 20) + 20 : Nat)) ∧ (∀ k, 20 * t ≤ k → k < n → zs.getD k 0 = k) ∧ ∀ s, s < t → Srt V (20 * s) (20 * s + 20) zs,
    fun vs _ => (n + 20 - ivOf vs 1).toNat, ⟨0, rfl, by omega, xs, H, Re.refl _ _ _, fun k hk => by rw [hid k hk]; omega, fun k _ hk => hid k hk, fun s hs => by omega⟩, ?_⟩
  rintro g x1 x2 ⟨t, hv, ht, zs, H, re, hb, hk, hs⟩
  simp at hv
  obtain ⟨e1, e2⟩ := hv
  have e1 : x1 = ((20 * t : Nat) : Int) := by omega
  have e2 : x2 = ((20 * t + 20 : Nat) : Int) := by omega
  subst e1 e2
  have lzs := re.len
  (refine br (fun hc => ?_) (fun hc => ?_) <;> (try simp only [decide_eq_true_eq, decide_eq_false_iff_not, beq_iff_eq, bne_iff_ne, ne_eq, Bool.not_eq_true', Bool.not_eq_false', Bool.not_eq_true, Bool.not_eq_false, beq_eq_false_iff_ne, bne_eq_false_iff_eq, Int.not_lt, Int.not_le, gt_iff_lt, ge_iff_le, Decidable.not_not] at hc))
  · have hle : 20 * t + 20 ≤ n := by omega
    refine (insertionSort_ok ck H (hin.re re) (by omega) hle (fun i j i1 ij j2 => by rw [hk i i1 (by omega), hk j (by omega) (by omega)]; omega)).mono ?_
    rintro v g2 ⟨rfl, ys, H, r2, st⟩
    have e3 : IntKind.i64.wrap (((20 * t + 20 : Nat) : Int) + 20) = ((20 * (t + 1) + 20 : Nat) : Int) := by rw [wrap64_of (by omega) (by omega)]; omega
    rw [e3]
    refine ⟨rfl, ⟨t + 1, rfl, by omega, ys, H, re.trans (r2.mono (by omega) (by omega)), blk_re hb r2 (by omega) (by omega) hle, fun k k1 k2 => ?_, fun s hs2 => ?_⟩, ?_⟩
    · rw [r2.out k (by omega)]; exact hk k (by omega) k2
    · by_cases e : s = t
      · subst e; exact st
      · intro i j i1 ij j2
        rw [r2.out i (by omega), r2.out j (by omega)]
        exact hs s (by omega) i j i1 ij j2
    · simp [ivOf]; omega
  · refine (insertionSort_ok ck H (hin.re re) (by omega) (Nat.le_refl n) (fun i j i1 ij j2 => by rw [hk i i1 (by omega), hk j (by omega) (by omega)]; omega)).mono ?_
    rintro v g2 ⟨rfl, ys, H, r2, st⟩
    refine ⟨rfl, ?_⟩
    have re2 := re.trans (r2.mono (Nat.zero_le _) (Nat.le_refl n))
    have hb2 := blk_re hb r2 (by omega) (by omega) (Nat.le_refl n)
    have sA : Srt V 0 (min 20 n) ys := by
      intro i j i1 ij j2
      by_cases h0 : t = 0
      · subst h0; exact st i j (by omega) ij (by omega)
      · rw [r2.out i (by omega), r2.out j (by omega)]
        exact hs 0 (by omega) i j (by omega) ij (by omega)
    have sB : Srt V 20 n ys := by
      intro i j i1 ij j2
      by_cases h1 : t = 1
      · subst h1; exact st i j (by omega) ij j2
      · rw [r2.out i (by omega), r2.out j (by omega)]
        exact hs 1 (by omega) i j (by omega) ij (by omega)
    have asc : ∀ i j, 0 ≤ i → i < 20 → 20 ≤ j → j < n → ys.getD i 0 < ys.getD j 0 := fun i j _ i2 j1 j2 => by
      have h1 := hb2 i (by omega)
      have h2 := hb2 j j2
      omega
    refine ⟨fun vs g => ∃ bs : Nat, vs = [.int .i64 bs] ∧ ∃ zs, Own g (slA kI zs a n c :: L) ∧ Re 0 n xs zs ∧ (bs = 20 ∧ zs = ys ∨ bs = 40 ∧ Srt V 0 n zs), fun vs _ => (n - ivOf vs 0).toNat, ⟨20, rfl, ys, H, re2, .inl ⟨rfl, rfl⟩⟩, ?_⟩
    rintro g3 x3 ⟨bs, hv, zs, H, re3, hz⟩
    simp at hv
    subst hv
    (refine br (fun hc => ?_) (fun hc => ?_) <;> (try simp only [decide_eq_true_eq, decide_eq_false_iff_not, beq_iff_eq, bne_iff_ne, ne_eq, Bool.not_eq_true', Bool.not_eq_false', Bool.not_eq_true, Bool.not_eq_false, beq_eq_false_iff_ne, bne_eq_false_iff_eq, Int.not_lt, Int.not_le, gt_iff_lt, ge_iff_le, Decidable.not_not] at hc))
    · rcases hz with ⟨rfl, hzy⟩ | ⟨rfl, _⟩
      · rw [← hzy] at sA sB asc
        have e5 : IntKind.i64.wrap (2 * ((20 : Nat) : Int)) = ((40 : Nat) : Int) := by decide
        have e6 : IntKind.i64.wrap (((20 : Nat) : Int) * 2) = ((40 : Nat) : Int) := by decide
        rw [e5, e6]
        have fin : ∀ g (vs : List Int), Own g (slA kI vs a n c :: L) → Re 0 n xs vs → Srt V 0 n vs →
            (∃ bs : Nat, [Value.int .i64 ((40 : Nat) : Int)] = [.int .i64 bs] ∧ ∃ zs', Own g (slA kI zs' a n c :: L) ∧ Re 0 n xs zs' ∧ (bs = 20 ∧ zs' = ys ∨ bs = 40 ∧ Srt V 0 n zs')) ∧ ((n : Int) - ivOf [Value.int .i64 ((40 : Nat) : Int)] 0).toNat < ((n : Int) - ivOf [Value.int .i64 ((20 : Nat) : Int)] 0).toNat :=
          fun g vs H r s => ⟨⟨40, rfl, vs, H, r, .inr ⟨rfl, s⟩⟩, by simp [ivOf]; omega⟩
        refine ⟨fun vs g => ∃ p q : Nat, vs = [.int .i64 p, .int .i64 q] ∧ ∃ ws, Own g (slA kI ws a n c :: L) ∧ Re 0 n xs ws ∧ (p = 0 ∧ q = 40 ∧ ws = zs ∨ p = 40 ∧ q = 80 ∧ n = 40 ∧ Srt V 0 n ws),
          fun vs _ => (100 - ivOf vs 1).toNat, ⟨0, 40, rfl, zs, H, re3, .inl ⟨rfl, rfl, rfl⟩⟩, ?_⟩
        rintro g4 x4 x5 ⟨p, q, hv, ws, H, re4, hw⟩
        simp at hv
        obtain ⟨rfl, rfl⟩ := hv
        have e7 : IntKind.i64.wrap ((p : Int) + ((20 : Nat) : Int)) = ((p + 20 : Nat) : Int) := by rw [wrap64_of (by omega) (by omega)]; omega
        rw [e7]
        (refine br (fun hc => ?_) (fun hc => ?_) <;> (try simp only [decide_eq_true_eq, decide_eq_false_iff_not, beq_iff_eq, bne_iff_ne, ne_eq, Bool.not_eq_true', Bool.not_eq_false', Bool.not_eq_true, Bool.not_eq_false, beq_eq_false_iff_ne, bne_eq_false_iff_eq, Int.not_lt, Int.not_le, gt_iff_lt, ge_iff_le, Decidable.not_not] at hc))
        · rcases hw with ⟨rfl, rfl, hwz⟩ | ⟨rfl, rfl, h40, _⟩
          · rw [← hwz] at sA sB asc
            have h40 : n = 40 := by omega
            have h := symMerge_ok ck 40 0 (0 + 20) 40 _ _ (by omega) (by omega) (by omega) (by omega) H (hin.re re4) (fun i j i1 ij j2 => sA i j i1 ij (by omega)) (fun i j i1 ij j2 => sB i j (by omega) ij (by omega)) (fun i j i1 i2 j1 j2 => asc i j i1 (by omega) (by omega) (by omega))
            refine h.mono ?_
            rintro v g5 ⟨rfl, us, H, r5, s5⟩
            have e8 : IntKind.i64.wrap (((40 : Nat) : Int) + ((40 : Nat) : Int)) = ((80 : Nat) : Int) := by decide
            rw [e8]
            refine ⟨rfl, ⟨40, 80, rfl, us, H, re4.trans (r5.mono (by omega) (by omega)), .inr ⟨rfl, rfl, h40, fun i j i1 ij j2 => s5 i j i1 ij (by omega)⟩⟩, ?_⟩
            simp [ivOf]
          · omega
        · (refine br (fun hc => ?_) (fun hc => ?_) <;> (try simp only [decide_eq_true_eq, decide_eq_false_iff_not, beq_iff_eq, bne_iff_ne, ne_eq, Bool.not_eq_true', Bool.not_eq_false', Bool.not_eq_true, Bool.not_eq_false, beq_eq_false_iff_ne, bne_eq_false_iff_eq, Int.not_lt, Int.not_le, gt_iff_lt, ge_iff_le, Decidable.not_not] at hc))
          · rcases hw with ⟨rfl, rfl, hwz⟩ | ⟨rfl, rfl, h40, _⟩
            · rw [← hwz] at sA sB asc
              have h := symMerge_ok ck 40 0 (0 + 20) n _ _ (by omega) (by omega) (by omega) (by omega) H (hin.re re4) (fun i j i1 ij j2 => sA i j i1 ij (by omega)) (fun i j i1 ij j2 => sB i j (by omega) ij (by omega)) (fun i j i1 i2 j1 j2 => asc i j i1 (by omega) (by omega) (by omega))
              refine h.mono ?_
              rintro v g5 ⟨rfl, us, H, r5, s5⟩
              exact ⟨rfl, fin _ _ H (re4.trans r5) s5⟩
            · omega
          · rcases hw with ⟨rfl, rfl, hwz⟩ | ⟨rfl, rfl, h40, sw⟩
            · omega
            · exact fin _ _ H re4 sw
      · omega
    · refine ⟨rfl, zs, H, re3, ?_⟩
      rcases hz with ⟨rfl, hzy⟩ | ⟨rfl, s⟩
      · rw [hzy]
        exact fun i j i1 ij j2 => sA i j i1 ij (by omega)
      · exact s
theorem SortStable_ok (ck : CmpOk N V f kk a n c L) (H : Own h (slA kI xs a n c :: L)) (hin : InN N xs) (hn : n ≤ 40) (hid : ∀ k, k < n → xs.getD k 0 = k) :
    CallsH PP fn_slices_SortStableFunc_int [.slice a n c, .func (.func f) #[] ⟨kk⟩] h fun v h' => v = .tuple ⟨[]⟩ ∧ ∃ ys, Own h' (slA kI ys a n c :: L) ∧ Re 0 n xs ys ∧ Srt V 0 n ys := by
  refine calls_slices_SortStableFunc_int _ _ _ _ ?_
  unfold M_slices_SortStableFunc_int
  refine (stable_ok ck H hin hn hid).mono ?_
  rintro v g ⟨rfl, r⟩
  exact ⟨rfl, rfl, r⟩
end
end Go.Proofs.Ytjmhahjmbmiepaa.D
