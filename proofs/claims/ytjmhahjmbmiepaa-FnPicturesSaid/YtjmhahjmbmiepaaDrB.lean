/- Contracts: coins and steps are drawn. -/
import Derived.Test.YtjmhahjmbmiepaaDrA
namespace Go.Proofs.Ytjmhahjmbmiepaa.D
open Go
set_option linter.unusedVariables false
set_option linter.unusedSimpArgs false

section
variable {h h0 : Heap} {L R : List Asn} {a : Option Addr} {b n c k : Nat}
theorem coins_ok (H : Own h L) [i : CurIn b L a n c k R] [q : OldOf R h0] (cd : CodeR h0 a n) (hk : k < 4611686018427380000) :
    CallsH PP fn_spec_l1Cur_coins [.pointer (some ⟨b, 0, none⟩)] h fun v h' => ∃ (xs : List Int) (a' : Option Addr) (n' c' : Nat), v = .slice a' n' c' ∧ n' ≤ 5 ∧ Own h' (slA kI xs a' n' c' :: curA b a n c (k + 100) :: R) := by
  refine calls_spec_l1Cur_coins _ _ ?_
  unfold M_spec_l1Cur_coins
  ((refine (pick_ok H cd (by omega) _).mono ?_; rintro v_ g_ ⟨x_, rfl, hx0, hx1, hx2, H⟩; refine ⟨_, rfl, ?_⟩))
  have hx1 := hx1 (by omega)
  rw [wrap64_of (by omega) (by omega)]
  refine ⟨fun vs g => ∃ (xs : List Int) (a' : Option Addr) (n' c' : Nat) (j : Int), vs = [.slice a' n' c', .int .i64 j] ∧ 0 ≤ j ∧ n' + j = 1 + x_ ∧ Own g (slA kI xs a' n' c' :: curA b a n c (k + 2 + 2 * n') :: R),
    fun vs _ => (ivOf vs 1).toNat, ⟨[], none, 0, 0, _, rfl, by omega, by omega, (H.slNil kI).to (by repeat' (first | exact trivial | exact rfl | omega | (refine ⟨?_, ?_⟩)))⟩, ?_⟩
  rintro g a1 n1 c1 j ⟨xs, a', n', c', j', hv, hj0, hj1, H⟩
  simp at hv
  obtain ⟨⟨rfl, rfl, rfl⟩, rfl⟩ := hv
  (refine br (fun hc => ?_) (fun hc => ?_) <;> (try simp only [decide_eq_true_eq, decide_eq_false_iff_not, beq_iff_eq, bne_iff_ne, ne_eq, Bool.not_eq_true', Bool.not_eq_false', Bool.not_eq_true, Bool.not_eq_false, beq_eq_false_iff_ne, bne_eq_false_iff_eq, Int.not_lt, Int.not_le, gt_iff_lt, ge_iff_le, Decidable.not_not] at hc))
  · ((refine (pick_ok H cd (by omega) _).mono ?_; rintro v_ g_ ⟨x_, rfl, hx0, hx1, hx2, H⟩; refine ⟨_, rfl, ?_⟩))
    have hx1 := hx1 (by omega)
    (refine H.nw fun g_ H => ?_)
    refine H.ap1 (by exact ⟨rfl, rfl, by unfold inI64; omega⟩) (by omega) fun a2 c2 g2 H => ?_
    rw [wrap64_of (by omega) (by omega)]
    refine ⟨⟨_, _, _, _, _, rfl, by omega, by omega, H.to ⟨rfl, by omega, trivial⟩⟩, ?_⟩
    simp [ivOf]; omega
  · ((refine (one_ok H cd (by omega) _).mono ?_; rintro v_ g_ ⟨x_, rfl, H⟩; refine ⟨_, rfl, ?_⟩))
    (refine br (fun hc => ?_) (fun hc => ?_) <;> (try simp only [decide_eq_true_eq, decide_eq_false_iff_not, beq_iff_eq, bne_iff_ne, ne_eq, Bool.not_eq_true', Bool.not_eq_false', Bool.not_eq_true, Bool.not_eq_false, beq_eq_false_iff_ne, bne_eq_false_iff_eq, Int.not_lt, Int.not_le, gt_iff_lt, ge_iff_le, Decidable.not_not] at hc))
    · (refine H.nw fun g_ H => ?_)
      refine (among_ok H cd (by omega) [-1, 50, 51] rfl rfl (by decide)).mono ?_
      rintro v g2 ⟨x, rfl, hx, H⟩
      refine ⟨_, rfl, ?_⟩
      refine H.ixI (i := 0) (by omega) (by omega) fun b2 o2 _ _ st => ?_
      obtain ⟨row, r, hl, st⟩ := st
      refine ⟨_, row, r, hl, ?_⟩
      intro g3 e3
      have H := Own.at (st x (by simp at hx; unfold inI64; omega)) e3
      exact ⟨_, _, _, _, rfl, by omega, H.to ⟨rfl, by omega, trivial⟩⟩
    · exact ⟨_, _, _, _, rfl, by omega, H.to ⟨rfl, by omega, trivial⟩⟩

theorem snapSteps_ok {nodes : Nat} (hnodes : nodes ≤ 5) (H : Own h L) [i : CurIn b L a n c k R] [q : OldOf R h0] (cd : CodeR h0 a n) (hk : k < 4611686018427380000) :
    CallsH PP fn_spec_l1Cur_snapSteps [.pointer (some ⟨b, 0, none⟩), .int .i64 nodes] h fun v h' => ∃ (ss : List StepD) (a' : Option Addr) (n' c' : Nat), v = .slice a' n' c' ∧ n' ≤ 200 ∧ Own h' (slA kSI ss a' n' c' :: curA b a n c (k + 4000) :: R) := by
  refine calls_spec_l1Cur_snapSteps _ _ _ ?_
  unfold M_spec_l1Cur_snapSteps
  ((refine (pick_ok H cd (by omega) _).mono ?_; rintro v_ g_ ⟨x_, rfl, hx0, hx1, hx2, H⟩; refine ⟨_, rfl, ?_⟩))
  have hx1 := hx1 (by omega)
  intro K4 hK4
  have fin : ∀ (g : Heap) (x : Int), 0 ≤ x → x ≤ 121 → Own g (curA b a n c (k + 10) :: R) → K4 [.int .i64 x] g := by
    intro g x hx0 hx1 H
    apply hK4
    refine ⟨fun vs g => ∃ (ss : List StepD) (a' : Option Addr) (n' c' : Nat) (j : Int), vs = [.slice a' n' c', .int .i64 j] ∧ 0 ≤ j ∧ n' + j = x ∧ Own g (slA kSI ss a' n' c' :: curA b a n c (k + 10 + 20 * n') :: R),
      fun vs _ => (ivOf vs 1).toNat, ⟨[], none, 0, 0, _, rfl, by omega, by omega, (H.slNil kSI).to (by repeat' (first | exact trivial | exact rfl | omega | (refine ⟨?_, ?_⟩)))⟩, ?_⟩
    rintro g a1 n1 c1 j ⟨ss, a', n', c', j', hv, hj0, hj1, H⟩
    simp at hv
    obtain ⟨⟨rfl, rfl, rfl⟩, rfl⟩ := hv
    (refine br (fun hc => ?_) (fun hc => ?_) <;> (try simp only [decide_eq_true_eq, decide_eq_false_iff_not, beq_iff_eq, bne_iff_ne, ne_eq, Bool.not_eq_true', Bool.not_eq_false', Bool.not_eq_true, Bool.not_eq_false, beq_eq_false_iff_ne, bne_eq_false_iff_eq, Int.not_lt, Int.not_le, gt_iff_lt, ge_iff_le, Decidable.not_not] at hc))
    · (refine H.nw fun g_ H => ?_)
      refine (among_ok H cd (by omega) [1, 1, 1, 2, 2, 2, 2, 2] rfl rfl (by decide)).mono ?_
      rintro v g2 ⟨y, rfl, hy, H⟩
      refine ⟨_, rfl, ?_⟩
      have hy : 1 ≤ y ∧ y ≤ 2 := by simp at hy; omega
      ((refine (pick_ok H cd (by omega) _).mono ?_; rintro v_ g_ ⟨x_, rfl, hx0, hx1, hx2, H⟩; refine ⟨_, rfl, ?_⟩))
      obtain ⟨f, hf, hf0⟩ : ∃ f : Int, f = x_ ∧ 0 ≤ f ∧ f ≤ 5 := ⟨x_, rfl, by omega, by omega⟩
      rw [← hf]
      ((refine (pick_ok H cd (by omega) _).mono ?_; rintro v_ g_ ⟨x_, rfl, hx0, hx1, hx2, H⟩; refine ⟨_, rfl, ?_⟩))
      obtain ⟨t, ht, ht0⟩ : ∃ t : Int, t = x_ ∧ 0 ≤ t ∧ t ≤ 5 := ⟨x_, rfl, by omega, by omega⟩
      rw [← ht]
      refine H.nw fun g5 H => ?_
      refine H.sts (by simp) fun g6 H => ?_
      intro K19 hK19
      have fin19 : ∀ (g : Heap) (k1 f1 t1 m1 : Int) (e : TypeId), (0 ≤ k1 ∧ k1 ≤ 100) → (0 ≤ f1 ∧ f1 ≤ 100) → (0 ≤ t1 ∧ t1 ≤ 100) → (0 ≤ m1 ∧ m1 ≤ 100) →
          Own g (rowA g_.size e [.int .i64 k1, .int .i64 f1, .int .i64 t1, .int .i64 m1] :: slA kSI ss a1 n1 c1 :: curA b a n c (k + 10 + 20 * n1 + 10) :: R) → K19 [] g := by
        intro g k1 f1 t1 m1 e hk1 hf1 ht1 hm1 H
        apply hK19
        ((refine (one_ok H cd (by omega) _).mono ?_; rintro v_ g_ ⟨x_, rfl, H⟩; refine ⟨_, rfl, ?_⟩))
        (refine br (fun hc => ?_) (fun hc => ?_) <;> (try simp only [decide_eq_true_eq, decide_eq_false_iff_not, beq_iff_eq, bne_iff_ne, ne_eq, Bool.not_eq_true', Bool.not_eq_false', Bool.not_eq_true, Bool.not_eq_false, beq_eq_false_iff_ne, bne_eq_false_iff_eq, Int.not_lt, Int.not_le, gt_iff_lt, ge_iff_le, Decidable.not_not] at hc))
        · ((refine (pick_ok H cd (by omega) _).mono ?_; rintro v_ g_ ⟨x_, rfl, hx0, hx1, hx2, H⟩; refine ⟨_, rfl, ?_⟩))
          repeat' (first | (first | ((refine (within_ok _ _ _).mono ?_; rintro v_ g_ ⟨rfl, rfl⟩; refine ⟨_, rfl, ?_⟩)) | (first | refine ldI (by first | assumption | exact H.ld (by rfl) | exact H.ldO (by assumption)) ?_ | refine ldS (by first | assumption | exact H.ld (by rfl) | exact H.ldO (by assumption)) ?_ | refine ldB (by first | assumption | exact H.ld (by rfl) | exact H.ldO (by assumption)) ?_ | refine ldT (by first | assumption | exact H.ld (by rfl) | exact H.ldO (by assumption)) ?_ | refine re1 (by first | assumption | exact H.ld (by rfl) | exact H.ldO (by assumption)) ?_ | fail) | (first | refine SlR.nxI (by assumption) (by first | omega | assumption) fun b_ o_ e_ r_ => ?_ | refine SlR.nxB (by assumption) (by first | omega | assumption) fun b_ o_ e_ => ?_ | refine SlR.nxS (by assumption) (by first | omega | assumption) fun b_ o_ a_ n_ c_ e_ s_ l_ => ?_ | refine SlR.ixI (by assumption) (by first | omega | assumption) (by first | omega | assumption) fun b_ o_ e_ r_ => ?_ | refine SlR.ixB (by assumption) (by first | omega | assumption) (by first | omega | assumption) fun b_ o_ e_ => ?_ | refine SlR.ixS (by assumption) (by first | omega | assumption) (by first | omega | assumption) fun b_ o_ a_ n_ c_ e_ s_ => ?_ | fail) | (refine br (fun hc => ?_) (fun hc => ?_) <;> (try simp only [decide_eq_true_eq, decide_eq_false_iff_not, beq_iff_eq, bne_iff_ne, ne_eq, Bool.not_eq_true', Bool.not_eq_false', Bool.not_eq_true, Bool.not_eq_false, beq_eq_false_iff_ne, bne_eq_false_iff_eq, Int.not_lt, Int.not_le, gt_iff_lt, ge_iff_le, Decidable.not_not] at hc)) | (refine H.nw fun g_ H => ?_) | fail) | (first | refine H.st (by simp) fun g_ H => ?_ | refine H.sts (by simp) fun g_ H => ?_ | fail) | fail)
          refine H.ap1 (y := ⟨3, x_, 0, 0⟩) (by exact ⟨rfl, rfl, by unfold StepD.ok inI64; dsimp only; omega⟩) (by omega) fun a2 c2 g2 H => ?_
          rw [wrap64_of (by omega) (by omega)]
          refine ⟨⟨_, _, _, _, _, rfl, by omega, by omega, H.to (by repeat' (first | exact trivial | exact rfl | omega | (refine ⟨?_, ?_⟩)))⟩, ?_⟩
          simp [ivOf]; omega
        · repeat' (first | (first | ((refine (within_ok _ _ _).mono ?_; rintro v_ g_ ⟨rfl, rfl⟩; refine ⟨_, rfl, ?_⟩)) | (first | refine ldI (by first | assumption | exact H.ld (by rfl) | exact H.ldO (by assumption)) ?_ | refine ldS (by first | assumption | exact H.ld (by rfl) | exact H.ldO (by assumption)) ?_ | refine ldB (by first | assumption | exact H.ld (by rfl) | exact H.ldO (by assumption)) ?_ | refine ldT (by first | assumption | exact H.ld (by rfl) | exact H.ldO (by assumption)) ?_ | refine re1 (by first | assumption | exact H.ld (by rfl) | exact H.ldO (by assumption)) ?_ | fail) | (first | refine SlR.nxI (by assumption) (by first | omega | assumption) fun b_ o_ e_ r_ => ?_ | refine SlR.nxB (by assumption) (by first | omega | assumption) fun b_ o_ e_ => ?_ | refine SlR.nxS (by assumption) (by first | omega | assumption) fun b_ o_ a_ n_ c_ e_ s_ l_ => ?_ | refine SlR.ixI (by assumption) (by first | omega | assumption) (by first | omega | assumption) fun b_ o_ e_ r_ => ?_ | refine SlR.ixB (by assumption) (by first | omega | assumption) (by first | omega | assumption) fun b_ o_ e_ => ?_ | refine SlR.ixS (by assumption) (by first | omega | assumption) (by first | omega | assumption) fun b_ o_ a_ n_ c_ e_ s_ => ?_ | fail) | (refine br (fun hc => ?_) (fun hc => ?_) <;> (try simp only [decide_eq_true_eq, decide_eq_false_iff_not, beq_iff_eq, bne_iff_ne, ne_eq, Bool.not_eq_true', Bool.not_eq_false', Bool.not_eq_true, Bool.not_eq_false, beq_eq_false_iff_ne, bne_eq_false_iff_eq, Int.not_lt, Int.not_le, gt_iff_lt, ge_iff_le, Decidable.not_not] at hc)) | (refine H.nw fun g_ H => ?_) | fail) | (first | refine H.st (by simp) fun g_ H => ?_ | refine H.sts (by simp) fun g_ H => ?_ | fail) | fail)
          refine H.ap1 (y := ⟨k1, f1, t1, m1⟩) (by exact ⟨rfl, rfl, by unfold StepD.ok inI64; dsimp only; omega⟩) (by omega) fun a2 c2 g2 H => ?_
          rw [wrap64_of (by omega) (by omega)]
          refine ⟨⟨_, _, _, _, _, rfl, by omega, by omega, H.to (by repeat' (first | exact trivial | exact rfl | omega | (refine ⟨?_, ?_⟩)))⟩, ?_⟩
          simp [ivOf]; omega
      (first | refine ldI (by first | assumption | exact H.ld (by rfl) | exact H.ldO (by assumption)) ?_ | refine ldS (by first | assumption | exact H.ld (by rfl) | exact H.ldO (by assumption)) ?_ | refine ldB (by first | assumption | exact H.ld (by rfl) | exact H.ldO (by assumption)) ?_ | refine ldT (by first | assumption | exact H.ld (by rfl) | exact H.ldO (by assumption)) ?_ | refine re1 (by first | assumption | exact H.ld (by rfl) | exact H.ldO (by assumption)) ?_ | fail)
      (refine br (fun hc => ?_) (fun hc => ?_) <;> (try simp only [decide_eq_true_eq, decide_eq_false_iff_not, beq_iff_eq, bne_iff_ne, ne_eq, Bool.not_eq_true', Bool.not_eq_false', Bool.not_eq_true, Bool.not_eq_false, beq_eq_false_iff_ne, bne_eq_false_iff_eq, Int.not_lt, Int.not_le, gt_iff_lt, ge_iff_le, Decidable.not_not] at hc))
      · ((refine (pick_ok H cd (by omega) _).mono ?_; rintro v_ g_ ⟨x_, rfl, hx0, hx1, hx2, H⟩; refine ⟨_, rfl, ?_⟩))
        refine H.st (by simp [splice]) fun g7 H => ?_
        exact fin19 _ y f t (IntKind.i64.wrap (1 + x_)) ty_impl_SnapStep (by omega) (by omega) (by omega) (by rw [wrap64_of (by omega) (by omega)]; omega) (H.to (by repeat' (first | exact trivial | exact rfl | omega | (refine ⟨?_, ?_⟩))))
      · exact fin19 _ y f t 0 ty_impl_SnapStep (by omega) (by omega) (by omega) (by omega) (H.to (by repeat' (first | exact trivial | exact rfl | omega | (refine ⟨?_, ?_⟩))))
    · intro K43 hK43
      have fin43 : ∀ (g : Heap) (x : Bool), (x = true → 0 < n1) → Own g (slA kSI ss a1 n1 c1 :: curA b a n c (k + 10 + 20 * n1 + 10) :: R) → K43 [.bool x] g := by
        intro g x hx H
        apply hK43
        (refine br (fun hc => ?_) (fun hc => ?_) <;> (try simp only [decide_eq_true_eq, decide_eq_false_iff_not, beq_iff_eq, bne_iff_ne, ne_eq, Bool.not_eq_true', Bool.not_eq_false', Bool.not_eq_true, Bool.not_eq_false, beq_eq_false_iff_ne, bne_eq_false_iff_eq, Int.not_lt, Int.not_le, gt_iff_lt, ge_iff_le, Decidable.not_not] at hc))
        · have hx := hx hc
          ((refine (pick_ok H cd (by omega) _).mono ?_; rintro v_ g_ ⟨x_, rfl, hx0, hx1, hx2, H⟩; refine ⟨_, rfl, ?_⟩))
          obtain ⟨y1, e1, hy1⟩ : ∃ f : Int, f = x_ ∧ 0 ≤ f ∧ f ≤ 5 := ⟨x_, rfl, by omega, by omega⟩
          rw [← e1]
          ((refine (pick_ok H cd (by omega) _).mono ?_; rintro v_ g_ ⟨x_, rfl, hx0, hx1, hx2, H⟩; refine ⟨_, rfl, ?_⟩))
          obtain ⟨y2, e2, hy2⟩ : ∃ f : Int, f = x_ ∧ 0 ≤ f ∧ f ≤ 7 := ⟨x_, rfl, by omega, by omega⟩
          rw [← e2]
          ((refine (pick_ok H cd (by omega) _).mono ?_; rintro v_ g_ ⟨x_, rfl, hx0, hx1, hx2, H⟩; refine ⟨_, rfl, ?_⟩))
          obtain ⟨y3, e3, hy3⟩ : ∃ f : Int, f = x_ ∧ 0 ≤ f ∧ f ≤ 7 := ⟨x_, rfl, by omega, by omega⟩
          rw [← e3]
          ((refine (pick_ok H cd (by omega) _).mono ?_; rintro v_ g_ ⟨x_, rfl, hx0, hx1, hx2, H⟩; refine ⟨_, rfl, ?_⟩))
          rw [wrap64_of (by omega) (by omega), wrap64_of (by omega) (by omega)]
          refine H.ixStep (i := 0) (by omega) (by omega) fun b2 o2 st => ?_
          obtain ⟨row, r, hl, st⟩ := st
          refine ⟨_, row, r, hl, ?_⟩
          intro g3 e3
          have H := Own.at (st ⟨y1, y2 - 1, y3 - 1, x_⟩ (by unfold StepD.ok inI64; dsimp only; omega)) e3
          exact ⟨_, _, _, _, rfl, by omega, H.to (by repeat' (first | exact trivial | exact rfl | omega | (refine ⟨?_, ?_⟩)))⟩
        · exact ⟨_, _, _, _, rfl, by omega, H.to (by repeat' (first | exact trivial | exact rfl | omega | (refine ⟨?_, ?_⟩)))⟩
      (refine br (fun hc => ?_) (fun hc => ?_) <;> (try simp only [decide_eq_true_eq, decide_eq_false_iff_not, beq_iff_eq, bne_iff_ne, ne_eq, Bool.not_eq_true', Bool.not_eq_false', Bool.not_eq_true, Bool.not_eq_false, beq_eq_false_iff_ne, bne_eq_false_iff_eq, Int.not_lt, Int.not_le, gt_iff_lt, ge_iff_le, Decidable.not_not] at hc))
      · ((refine (one_ok H cd (by omega) _).mono ?_; rintro v_ g_ ⟨x_, rfl, H⟩; refine ⟨_, rfl, ?_⟩))
        exact fin43 _ _ (fun _ => by omega) (H.to (by repeat' (first | exact trivial | exact rfl | omega | (refine ⟨?_, ?_⟩))))
      · exact fin43 _ _ (fun h => by cases h) (H.to (by repeat' (first | exact trivial | exact rfl | omega | (refine ⟨?_, ?_⟩))))
  ((refine (one_ok H cd (by omega) _).mono ?_; rintro v_ g_ ⟨x_, rfl, H⟩; refine ⟨_, rfl, ?_⟩))
  (refine br (fun hc => ?_) (fun hc => ?_) <;> (try simp only [decide_eq_true_eq, decide_eq_false_iff_not, beq_iff_eq, bne_iff_ne, ne_eq, Bool.not_eq_true', Bool.not_eq_false', Bool.not_eq_true, Bool.not_eq_false, beq_eq_false_iff_ne, bne_eq_false_iff_eq, Int.not_lt, Int.not_le, gt_iff_lt, ge_iff_le, Decidable.not_not] at hc))
  · ((refine (pick_ok H cd (by omega) _).mono ?_; rintro v_ g_ ⟨x_, rfl, hx0, hx1, hx2, H⟩; refine ⟨_, rfl, ?_⟩))
    rw [wrap64_of (by omega) (by omega)]
    exact fin _ _ (by omega) (by omega) (H.to (by repeat' (first | exact trivial | exact rfl | omega | (refine ⟨?_, ?_⟩))))
  · exact fin _ _ (by omega) (by omega) (H.to (by repeat' (first | exact trivial | exact rfl | omega | (refine ⟨?_, ?_⟩))))

theorem DrawPlayBank_ok (cd : CodeR h a n) : CallsH PP fn_spec_DrawPlayBank [.slice a n c] h fun v h' => ∃ (xs : List Int) (ss : List StepD) (a1 : Option Addr) (n1 c1 : Nat) (a2 : Option Addr) (n2 c2 : Nat),
    v = .tuple ⟨[.slice a1 n1 c1, .slice a2 n2 c2]⟩ ∧ n1 ≤ 5 ∧ n2 ≤ 200 ∧ Own h' [slA kI xs a1 n1 c1, slA kSI ss a2 n2 c2, oldA h] := by
  refine calls_spec_DrawPlayBank _ _ _ ?_
  unfold M_spec_DrawPlayBank
  have H := Own.start h
  (refine H.nw fun g_ H => ?_)
  have H : Own g_ (curA h.size a n c 0 :: oldA h :: []) := H.curShut (by omega) (by omega)
  refine (coins_ok H cd (by omega)).mono ?_
  rintro v g1 ⟨xs, a1, n1, c1, rfl, hn1, H⟩
  refine ⟨_, _, _, rfl, ?_⟩
  refine (snapSteps_ok hn1 H cd (by omega)).mono ?_
  rintro v g2 ⟨ss, a2, n2, c2, rfl, hn2, H⟩
  exact ⟨_, _, _, rfl, xs, ss, _, _, _, _, _, _, rfl, hn1, hn2, H.to (by repeat' (first | exact trivial | exact rfl | omega | (refine ⟨?_, ?_⟩)))⟩
end
end Go.Proofs.Ytjmhahjmbmiepaa.D
