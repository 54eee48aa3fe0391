/- Contracts: a bank that a play has left is one. -/
import Derived.Test.YtjmhahjmbmiepaaPxA
import Derived.Test.YtjmhahjmbmiepaaSepF
import Derived.Test.YtjmhahjmbmiepaaPcG
namespace Go.Proofs.Ytjmhahjmbmiepaa.D
open Go
set_option linter.unusedVariables false
set_option linter.unusedSimpArgs false

/-- A bank that is only read. -/
structure BankR (h : Heap) (x : BankD) (d : BankH) : Prop where
  s0 : SlR kI h x.coins d.d0.a d.d0.n d.d0.c
  s1 : SlR kIS h x.ways d.d1.a d.d1.n d.d1.c
  s2 : SlR kI h x.kept d.d2.a d.d2.n d.d2.c
  s3 : SlR kBS h x.heard d.d3.a d.d3.n d.d3.c
  s4 : SlR kIS h x.found d.d4.a d.d4.n d.d4.c
theorem BankR.ext {h h' : Heap} {x : BankD} {d : BankH} (r : BankR h x d) (f : Ext h h') : BankR h' x d := ⟨r.s0.ext f, r.s1.ext f, r.s2.ext f, r.s3.ext f, r.s4.ext f⟩
theorem Own.bankR {h : Heap} {L : List Asn} {x : BankD} {d : BankH} (H : Own h (bankL x d L)) : BankR h x d := ⟨H.sl m0, H.sl m1, H.sl m2, H.sl m3, H.sl m4⟩

section
variable {h : Heap} {n : Nat} {T : Int} {x : BankD} {d : BankH}

theorem isWay_1_ok (y : Int) : CallsH PP fn_impl_Bank_isWay_1 [.int .i64 y] h fun v h' => v = .bool (!inR y 0 50) ∧ h' = h := by
  refine calls_impl_Bank_isWay_1 _ ?_
  unfold M_impl_Bank_isWay_1
  ((refine (within_ok _ _ _).mono ?_; rintro v_ g_ ⟨rfl, rfl⟩; refine ⟨_, rfl, ?_⟩))
  exact ⟨rfl, rfl⟩
theorem callable_isWay_1 : Callable PP fn_impl_Bank_isWay_1 := ⟨_, Try.func216, by kernel_rfl, by kernel_rfl⟩

theorem isWay_ok {b0 f t : Nat} (v : Inv n T x) (r : BankR h x d) (c0 : cellAt h b0 0 = some d.d0.v) (c1 : cellAt h b0 1 = some d.d1.v) (c2 : cellAt h b0 2 = some d.d2.v)
    (c3 : cellAt h b0 3 = some d.d3.v) (c4 : cellAt h b0 4 = some d.d4.v) (hf : f < n) (ht : t < n) :
    CallsH PP fn_impl_Bank_isWay [.pointer (some ⟨b0, 0, none⟩), .int .i64 f, .int .i64 t] h fun v h' => v = .bool true ∧ h' = h := by
  refine calls_impl_Bank_isWay _ _ _ _ ?_
  unfold M_impl_Bank_isWay
  obtain ⟨i, wf⟩ := v.wf
  obtain ⟨⟨a0, n0, q0⟩, ⟨a1, n1, q1⟩, ⟨a2, n2, q2⟩, ⟨a3, n3, q3⟩, ⟨a4, n4, q4⟩⟩ := d
  obtain ⟨s0, s1, s2, s3, s4⟩ := r
  dsimp only [Hd.v] at s0 s1 s2 s3 s4 c0 c1 c2 c3 c4
  have l0 := s0.len; have l1 := s1.len; have l2 := s2.len; have l3 := s3.len; have l4 := s4.len
  rw [wf.coins] at l0; rw [wf.ways] at l1; rw [wf.kept] at l2; rw [wf.heard] at l3; rw [wf.found] at l4
  obtain ⟨rfl, -⟩ := l0
  have hn := wf.le
  have hnn := mul_le5 hn
  have hix := idx_lt hf ht
  have T0 := v.T0
  have hft := v.hdk f t hf ht
  have hlen := v.len f t hf ht
  have hit := v.it f t hf ht
  have hfd := v.fd0 f t hf ht
  have hfl := v.fd_le hf ht
  unfold BankD.w BankD.kp BankD.hd BankD.fd at *
  (first | refine ldI (by first | assumption | exact H.ld (by rfl) | exact H.ldO (by assumption)) ?_ | refine ldS (by first | assumption | exact H.ld (by rfl) | exact H.ldO (by assumption)) ?_ | refine ldB (by first | assumption | exact H.ld (by rfl) | exact H.ldO (by assumption)) ?_ | refine ldT (by first | assumption | exact H.ld (by rfl) | exact H.ldO (by assumption)) ?_ | refine re1 (by first | assumption | exact H.ld (by rfl) | exact H.ldO (by assumption)) ?_ | fail)
  (first | refine ldI (by first | assumption | exact H.ld (by rfl) | exact H.ldO (by assumption)) ?_ | refine ldS (by first | assumption | exact H.ld (by rfl) | exact H.ldO (by assumption)) ?_ | refine ldB (by first | assumption | exact H.ld (by rfl) | exact H.ldO (by assumption)) ?_ | refine ldT (by first | assumption | exact H.ld (by rfl) | exact H.ldO (by assumption)) ?_ | refine re1 (by first | assumption | exact H.ld (by rfl) | exact H.ldO (by assumption)) ?_ | fail)
  rw [wrapIdx (by omega)]
  (first | refine SlR.nxI (by assumption) (by first | omega | assumption) fun b_ o_ e_ r_ => ?_ | refine SlR.nxB (by assumption) (by first | omega | assumption) fun b_ o_ e_ => ?_ | refine SlR.nxS (by assumption) (by first | omega | assumption) fun b_ o_ a_ n_ c_ e_ s_ l_ => ?_ | refine SlR.ixI (by assumption) (by first | omega | assumption) (by first | omega | assumption) fun b_ o_ e_ r_ => ?_ | refine SlR.ixB (by assumption) (by first | omega | assumption) (by first | omega | assumption) fun b_ o_ e_ => ?_ | refine SlR.ixS (by assumption) (by first | omega | assumption) (by first | omega | assumption) fun b_ o_ a_ n_ c_ e_ s_ => ?_ | fail)
  (first | refine ldI (by first | assumption | exact H.ld (by rfl) | exact H.ldO (by assumption)) ?_ | refine ldS (by first | assumption | exact H.ld (by rfl) | exact H.ldO (by assumption)) ?_ | refine ldB (by first | assumption | exact H.ld (by rfl) | exact H.ldO (by assumption)) ?_ | refine ldT (by first | assumption | exact H.ld (by rfl) | exact H.ldO (by assumption)) ?_ | refine re1 (by first | assumption | exact H.ld (by rfl) | exact H.ldO (by assumption)) ?_ | fail)
  intro K7 hK7
  have lw := l_
  have hfr := wf.frow f hf
  have hhr := wf.hrow t ht
  have sw := s_
  have fin : ∀ m : Int, (n_ : Int) ≤ m → K7 [.int .i64 m] h := by
    intro m hm
    apply hK7
    (refine br (fun hc => ?_) (fun hc => ?_) <;> (try simp only [decide_eq_true_eq, decide_eq_false_iff_not, beq_iff_eq, bne_iff_ne, ne_eq, Bool.not_eq_true', Bool.not_eq_false', Bool.not_eq_true, Bool.not_eq_false, beq_eq_false_iff_ne, bne_eq_false_iff_eq, Int.not_lt, Int.not_le, gt_iff_lt, ge_iff_le, Decidable.not_not] at hc))
    · have hc : f = t := by omega
      subst hc
      have hd := wf.diag f hf
      rw [hd] at lw
      have e1 : (x.heard.getD f []).getD f false = false := by cases hh : (x.heard.getD f []).getD f false with
        | false => rfl
        | true => exact absurd rfl (hft hh).2.2
      have e2 : (x.found.getD f []).getD f 0 = 0 := Decidable.byContradiction fun hh => absurd rfl (hfd.2 hh).2
      repeat' (first | exact ⟨rfl, rfl⟩ | (first | ((refine (within_ok _ _ _).mono ?_; rintro v_ g_ ⟨rfl, rfl⟩; refine ⟨_, rfl, ?_⟩)) | (first | refine ldI (by first | assumption | exact H.ld (by rfl) | exact H.ldO (by assumption)) ?_ | refine ldS (by first | assumption | exact H.ld (by rfl) | exact H.ldO (by assumption)) ?_ | refine ldB (by first | assumption | exact H.ld (by rfl) | exact H.ldO (by assumption)) ?_ | refine ldT (by first | assumption | exact H.ld (by rfl) | exact H.ldO (by assumption)) ?_ | refine re1 (by first | assumption | exact H.ld (by rfl) | exact H.ldO (by assumption)) ?_ | fail) | (first | refine SlR.nxI (by assumption) (by first | omega | assumption) fun b_ o_ e_ r_ => ?_ | refine SlR.nxB (by assumption) (by first | omega | assumption) fun b_ o_ e_ => ?_ | refine SlR.nxS (by assumption) (by first | omega | assumption) fun b_ o_ a_ n_ c_ e_ s_ l_ => ?_ | refine SlR.ixI (by assumption) (by first | omega | assumption) (by first | omega | assumption) fun b_ o_ e_ r_ => ?_ | refine SlR.ixB (by assumption) (by first | omega | assumption) (by first | omega | assumption) fun b_ o_ e_ => ?_ | refine SlR.ixS (by assumption) (by first | omega | assumption) (by first | omega | assumption) fun b_ o_ a_ n_ c_ e_ s_ => ?_ | fail) | (refine br (fun hc => ?_) (fun hc => ?_) <;> (try simp only [decide_eq_true_eq, decide_eq_false_iff_not, beq_iff_eq, bne_iff_ne, ne_eq, Bool.not_eq_true', Bool.not_eq_false', Bool.not_eq_true, Bool.not_eq_false, beq_eq_false_iff_ne, bne_eq_false_iff_eq, Int.not_lt, Int.not_le, gt_iff_lt, ge_iff_le, Decidable.not_not] at hc)) | (refine H.nw fun g_ H => ?_) | fail) | fail)
      · rw [e1]; exact ⟨rfl, rfl⟩
      · exact absurd e2 hc
      · simp at lw; omega
    intro K19 hK19
    have e1 : inR ((x.found.getD f []).getD t 0) 0 1000 = true := by rw [inR_iff]; omega
    have e2 : (x.ways.getD (f * n0 + t) []).any (fun y => !inR y 0 50) = false := by
      rw [List.any_eq_false]
      intro y hy
      have := inR_iff.2 (hit y hy)
      simp [this]
    have e3 : x.kept.getD t 0 < 0 → (x.found.getD f []).getD t 0 = 0 ∧ (x.heard.getD t []).getD f false = false := by
      intro hlt
      constructor
      · exact Decidable.byContradiction fun hh => by have := (hfd.2 hh).1; omega
      · cases hh : (x.heard.getD t []).getD f false with
        | false => rfl
        | true => have := (hft hh).2.1; omega
    repeat' (first | exact ⟨rfl, rfl⟩ | (first | ((refine (within_ok _ _ _).mono ?_; rintro v_ g_ ⟨rfl, rfl⟩; refine ⟨_, rfl, ?_⟩)) | (first | refine ldI (by first | assumption | exact H.ld (by rfl) | exact H.ldO (by assumption)) ?_ | refine ldS (by first | assumption | exact H.ld (by rfl) | exact H.ldO (by assumption)) ?_ | refine ldB (by first | assumption | exact H.ld (by rfl) | exact H.ldO (by assumption)) ?_ | refine ldT (by first | assumption | exact H.ld (by rfl) | exact H.ldO (by assumption)) ?_ | refine re1 (by first | assumption | exact H.ld (by rfl) | exact H.ldO (by assumption)) ?_ | fail) | (first | refine SlR.nxI (by assumption) (by first | omega | assumption) fun b_ o_ e_ r_ => ?_ | refine SlR.nxB (by assumption) (by first | omega | assumption) fun b_ o_ e_ => ?_ | refine SlR.nxS (by assumption) (by first | omega | assumption) fun b_ o_ a_ n_ c_ e_ s_ l_ => ?_ | refine SlR.ixI (by assumption) (by first | omega | assumption) (by first | omega | assumption) fun b_ o_ e_ r_ => ?_ | refine SlR.ixB (by assumption) (by first | omega | assumption) (by first | omega | assumption) fun b_ o_ e_ => ?_ | refine SlR.ixS (by assumption) (by first | omega | assumption) (by first | omega | assumption) fun b_ o_ a_ n_ c_ e_ s_ => ?_ | fail) | (refine br (fun hc => ?_) (fun hc => ?_) <;> (try simp only [decide_eq_true_eq, decide_eq_false_iff_not, beq_iff_eq, bne_iff_ne, ne_eq, Bool.not_eq_true', Bool.not_eq_false', Bool.not_eq_true, Bool.not_eq_false, beq_eq_false_iff_ne, bne_eq_false_iff_eq, Int.not_lt, Int.not_le, gt_iff_lt, ge_iff_le, Decidable.not_not] at hc)) | (refine H.nw fun g_ H => ?_) | fail) | apply hK19 | fail)
    all_goals clear hK7 hK19
    all_goals first
      | (exfalso; omega)
      | (exfalso; rw [e1] at hc; cases hc; done)
      | (exfalso; have e4 := e3 (by assumption); rw [e4.2] at hc; cases hc; done)
      | (exfalso; have e4 := e3 (by assumption); exact hc e4.1)
      | skip
    all_goals
      obtain ⟨F, sw⟩ := sw
      refine (ContainsFunc_ok sw (fun y => !inR y 0 50) callable_isWay_1 (fun y => isWay_1_ok y)).mono ?_
      rintro v_ g_ ⟨rfl, rfl⟩
      exact ⟨_, rfl, by rw [e2]; rfl, rfl⟩
  (first | refine ldI (by first | assumption | exact H.ld (by rfl) | exact H.ldO (by assumption)) ?_ | refine ldS (by first | assumption | exact H.ld (by rfl) | exact H.ldO (by assumption)) ?_ | refine ldB (by first | assumption | exact H.ld (by rfl) | exact H.ldO (by assumption)) ?_ | refine ldT (by first | assumption | exact H.ld (by rfl) | exact H.ldO (by assumption)) ?_ | refine re1 (by first | assumption | exact H.ld (by rfl) | exact H.ldO (by assumption)) ?_ | fail)
  (first | refine SlR.nxI (by assumption) (by first | omega | assumption) fun b_ o_ e_ r_ => ?_ | refine SlR.nxB (by assumption) (by first | omega | assumption) fun b_ o_ e_ => ?_ | refine SlR.nxS (by assumption) (by first | omega | assumption) fun b_ o_ a_ n_ c_ e_ s_ l_ => ?_ | refine SlR.ixI (by assumption) (by first | omega | assumption) (by first | omega | assumption) fun b_ o_ e_ r_ => ?_ | refine SlR.ixB (by assumption) (by first | omega | assumption) (by first | omega | assumption) fun b_ o_ e_ => ?_ | refine SlR.ixS (by assumption) (by first | omega | assumption) (by first | omega | assumption) fun b_ o_ a_ n_ c_ e_ s_ => ?_ | fail)
  (first | refine ldI (by first | assumption | exact H.ld (by rfl) | exact H.ldO (by assumption)) ?_ | refine ldS (by first | assumption | exact H.ld (by rfl) | exact H.ldO (by assumption)) ?_ | refine ldB (by first | assumption | exact H.ld (by rfl) | exact H.ldO (by assumption)) ?_ | refine ldT (by first | assumption | exact H.ld (by rfl) | exact H.ldO (by assumption)) ?_ | refine re1 (by first | assumption | exact H.ld (by rfl) | exact H.ldO (by assumption)) ?_ | fail)
  (refine br (fun hc => ?_) (fun hc => ?_) <;> (try simp only [decide_eq_true_eq, decide_eq_false_iff_not, beq_iff_eq, bne_iff_ne, ne_eq, Bool.not_eq_true', Bool.not_eq_false', Bool.not_eq_true, Bool.not_eq_false, beq_eq_false_iff_ne, bne_eq_false_iff_eq, Int.not_lt, Int.not_le, gt_iff_lt, ge_iff_le, Decidable.not_not] at hc))
  · rw [if_neg (by omega)] at hlen
    exact fin _ (by rw [wrap64_of (by omega) (by omega)]; omega)
  · exact fin _ (by split at hlen <;> omega)

/-- What the play of a bank left is a bank. -/
theorem isBank_ok (v : Inv n T x) (r : BankR h x d) : CallsH PP fn_impl_isBank [.agg ⟨d.cells⟩] h fun v h' => v = .bool true ∧ Ext h h' := by
  refine calls_impl_isBank _ _ _ _ _ _ _ _ _ _ _ _ _ _ _ ?_
  unfold M_impl_isBank
  obtain ⟨i, wf⟩ := v.wf
  have r0 := r
  obtain ⟨⟨a0, n0, q0⟩, ⟨a1, n1, q1⟩, ⟨a2, n2, q2⟩, ⟨a3, n3, q3⟩, ⟨a4, n4, q4⟩⟩ := d
  obtain ⟨s0, s1, s2, s3, s4⟩ := r
  dsimp only at s0 s1 s2 s3 s4
  dsimp only
  have l0 := s0.len; have l1 := s1.len; have l2 := s2.len; have l3 := s3.len; have l4 := s4.len
  rw [wf.coins] at l0; rw [wf.ways] at l1; rw [wf.kept] at l2; rw [wf.heard] at l3; rw [wf.found] at l4
  obtain ⟨rfl, -⟩ := l0
  have hn := wf.le
  have hp := wf.pos
  have hnn := mul_le5 hn
  have T0 := v.T0
  have H := Own.start h
  have e1 : inR (n0 : Int) 1 5 = true := by rw [inR_iff]; omega
  have e2 := wrapSq hn
  repeat' (first | (first | ((refine (within_ok _ _ _).mono ?_; rintro v_ g_ ⟨rfl, rfl⟩; refine ⟨_, rfl, ?_⟩)) | (first | refine ldI (by first | assumption | exact H.ld (by rfl) | exact H.ldO (by assumption)) ?_ | refine ldS (by first | assumption | exact H.ld (by rfl) | exact H.ldO (by assumption)) ?_ | refine ldB (by first | assumption | exact H.ld (by rfl) | exact H.ldO (by assumption)) ?_ | refine ldT (by first | assumption | exact H.ld (by rfl) | exact H.ldO (by assumption)) ?_ | refine re1 (by first | assumption | exact H.ld (by rfl) | exact H.ldO (by assumption)) ?_ | fail) | (first | refine SlR.nxI (by assumption) (by first | omega | assumption) fun b_ o_ e_ r_ => ?_ | refine SlR.nxB (by assumption) (by first | omega | assumption) fun b_ o_ e_ => ?_ | refine SlR.nxS (by assumption) (by first | omega | assumption) fun b_ o_ a_ n_ c_ e_ s_ l_ => ?_ | refine SlR.ixI (by assumption) (by first | omega | assumption) (by first | omega | assumption) fun b_ o_ e_ r_ => ?_ | refine SlR.ixB (by assumption) (by first | omega | assumption) (by first | omega | assumption) fun b_ o_ e_ => ?_ | refine SlR.ixS (by assumption) (by first | omega | assumption) (by first | omega | assumption) fun b_ o_ a_ n_ c_ e_ s_ => ?_ | fail) | (refine br (fun hc => ?_) (fun hc => ?_) <;> (try simp only [decide_eq_true_eq, decide_eq_false_iff_not, beq_iff_eq, bne_iff_ne, ne_eq, Bool.not_eq_true', Bool.not_eq_false', Bool.not_eq_true, Bool.not_eq_false, beq_eq_false_iff_ne, bne_eq_false_iff_eq, Int.not_lt, Int.not_le, gt_iff_lt, ge_iff_le, Decidable.not_not] at hc)) | (refine H.nw fun g_ H => ?_) | fail) | fail)
  all_goals first
    | (exfalso; omega)
    | (exfalso; simp [e1] at hc; done)
    | skip
  refine ⟨UpI n0 fun i g => Own g [rowA h.size ty_impl_Bank [.slice a0 n0 q0, .slice a1 n1 q1, .slice a2 n2 q2, .slice a3 n3 q3, .slice a4 n4 q4], oldA h], UpM n0, UpI.start H, ?_⟩
  intro g y hI
  obtain ⟨f, hf, rfl, H⟩ := hI.elim
  (refine br (fun hc => ?_) (fun hc => ?_) <;> (try simp only [decide_eq_true_eq, decide_eq_false_iff_not, beq_iff_eq, bne_iff_ne, ne_eq, Bool.not_eq_true', Bool.not_eq_false', Bool.not_eq_true, Bool.not_eq_false, beq_eq_false_iff_ne, bne_eq_false_iff_eq, Int.not_lt, Int.not_le, gt_iff_lt, ge_iff_le, Decidable.not_not] at hc))
  · have hf : f < n0 := by omega
    have c0 := v.c0 f hf
    have c1 := v.c_le hf
    have k1 := v.kp1 f hf
    have k2 := v.kp_le hf
    have hr := wf.hrow f hf
    have fr := wf.frow f hf
    unfold BankD.c BankD.kp at *
    have e3 : inR (x.coins.getD f 0) 0 1000 = true := by rw [inR_iff]; omega
    have e4 : inR (x.kept.getD f 0) (-1) 1000 = true := by rw [inR_iff]; omega
    repeat' (first | (first | ((refine (within_ok _ _ _).mono ?_; rintro v_ g_ ⟨rfl, rfl⟩; refine ⟨_, rfl, ?_⟩)) | (first | refine ldI (by first | assumption | exact H.ld (by rfl) | exact H.ldO (by assumption)) ?_ | refine ldS (by first | assumption | exact H.ld (by rfl) | exact H.ldO (by assumption)) ?_ | refine ldB (by first | assumption | exact H.ld (by rfl) | exact H.ldO (by assumption)) ?_ | refine ldT (by first | assumption | exact H.ld (by rfl) | exact H.ldO (by assumption)) ?_ | refine re1 (by first | assumption | exact H.ld (by rfl) | exact H.ldO (by assumption)) ?_ | fail) | (first | refine SlR.nxI (by assumption) (by first | omega | assumption) fun b_ o_ e_ r_ => ?_ | refine SlR.nxB (by assumption) (by first | omega | assumption) fun b_ o_ e_ => ?_ | refine SlR.nxS (by assumption) (by first | omega | assumption) fun b_ o_ a_ n_ c_ e_ s_ l_ => ?_ | refine SlR.ixI (by assumption) (by first | omega | assumption) (by first | omega | assumption) fun b_ o_ e_ r_ => ?_ | refine SlR.ixB (by assumption) (by first | omega | assumption) (by first | omega | assumption) fun b_ o_ e_ => ?_ | refine SlR.ixS (by assumption) (by first | omega | assumption) (by first | omega | assumption) fun b_ o_ a_ n_ c_ e_ s_ => ?_ | fail) | (refine br (fun hc => ?_) (fun hc => ?_) <;> (try simp only [decide_eq_true_eq, decide_eq_false_iff_not, beq_iff_eq, bne_iff_ne, ne_eq, Bool.not_eq_true', Bool.not_eq_false', Bool.not_eq_true, Bool.not_eq_false, beq_eq_false_iff_ne, bne_eq_false_iff_eq, Int.not_lt, Int.not_le, gt_iff_lt, ge_iff_le, Decidable.not_not] at hc)) | (refine H.nw fun g_ H => ?_) | fail) | fail)
    all_goals first
      | (exfalso; omega)
      | (exfalso; rw [e3] at hc; cases hc; done)
      | (exfalso; rw [e4] at hc; cases hc; done)
      | skip
    exact UpI.next (by omega) hf H
  · refine ⟨UpI n0 fun i g => Own g [rowA h.size ty_impl_Bank [.slice a0 n0 q0, .slice a1 n1 q1, .slice a2 n2 q2, .slice a3 n3 q3, .slice a4 n4 q4], oldA h], UpM n0, UpI.start H, ?_⟩
    intro g y hI
    obtain ⟨f, hf, rfl, H⟩ := hI.elim
    (refine br (fun hc => ?_) (fun hc => ?_) <;> (try simp only [decide_eq_true_eq, decide_eq_false_iff_not, beq_iff_eq, bne_iff_ne, ne_eq, Bool.not_eq_true', Bool.not_eq_false', Bool.not_eq_true, Bool.not_eq_false, beq_eq_false_iff_ne, bne_eq_false_iff_eq, Int.not_lt, Int.not_le, gt_iff_lt, ge_iff_le, Decidable.not_not] at hc))
    · have hf : f < n0 := by omega
      refine ⟨UpI n0 fun i g => Own g [rowA h.size ty_impl_Bank [.slice a0 n0 q0, .slice a1 n1 q1, .slice a2 n2 q2, .slice a3 n3 q3, .slice a4 n4 q4], oldA h], UpM n0, UpI.start H, ?_⟩
      intro g y hI
      obtain ⟨t, ht, rfl, H⟩ := hI.elim
      (refine br (fun hc => ?_) (fun hc => ?_) <;> (try simp only [decide_eq_true_eq, decide_eq_false_iff_not, beq_iff_eq, bne_iff_ne, ne_eq, Bool.not_eq_true', Bool.not_eq_false', Bool.not_eq_true, Bool.not_eq_false, beq_eq_false_iff_ne, bne_eq_false_iff_eq, Int.not_lt, Int.not_le, gt_iff_lt, ge_iff_le, Decidable.not_not] at hc))
      · have ht : t < n0 := by omega
        refine (isWay_ok v (r0.ext H.oldE) (H.ld (by rfl)) (H.ld (by rfl)) (H.ld (by rfl)) (H.ld (by rfl)) (H.ld (by rfl)) hf ht).mono ?_
        rintro v_ g_ ⟨rfl, rfl⟩
        refine ⟨_, rfl, ?_⟩
        (refine br (fun hc => ?_) (fun hc => ?_) <;> (try simp only [decide_eq_true_eq, decide_eq_false_iff_not, beq_iff_eq, bne_iff_ne, ne_eq, Bool.not_eq_true', Bool.not_eq_false', Bool.not_eq_true, Bool.not_eq_false, beq_eq_false_iff_ne, bne_eq_false_iff_eq, Int.not_lt, Int.not_le, gt_iff_lt, ge_iff_le, Decidable.not_not] at hc))
        · cases hc
        · exact UpI.next (by omega) ht H
      · exact UpI.next (by omega) hf H
    · exact ⟨rfl, H.oldE⟩

theorem GoodBank_ok (v : Inv n T x) (r : BankR h x d) : CallsH PP fn_impl_GoodBank [.agg ⟨d.cells⟩] h fun v h' => v = .bool true ∧ Ext h h' := by
  refine calls_impl_GoodBank _ _ _ _ _ _ _ _ _ _ _ _ _ _ _ ?_
  unfold M_impl_GoodBank
  have H := Own.start h
  repeat' (first | (first | ((refine (within_ok _ _ _).mono ?_; rintro v_ g_ ⟨rfl, rfl⟩; refine ⟨_, rfl, ?_⟩)) | (first | refine ldI (by first | assumption | exact H.ld (by rfl) | exact H.ldO (by assumption)) ?_ | refine ldS (by first | assumption | exact H.ld (by rfl) | exact H.ldO (by assumption)) ?_ | refine ldB (by first | assumption | exact H.ld (by rfl) | exact H.ldO (by assumption)) ?_ | refine ldT (by first | assumption | exact H.ld (by rfl) | exact H.ldO (by assumption)) ?_ | refine re1 (by first | assumption | exact H.ld (by rfl) | exact H.ldO (by assumption)) ?_ | fail) | (first | refine SlR.nxI (by assumption) (by first | omega | assumption) fun b_ o_ e_ r_ => ?_ | refine SlR.nxB (by assumption) (by first | omega | assumption) fun b_ o_ e_ => ?_ | refine SlR.nxS (by assumption) (by first | omega | assumption) fun b_ o_ a_ n_ c_ e_ s_ l_ => ?_ | refine SlR.ixI (by assumption) (by first | omega | assumption) (by first | omega | assumption) fun b_ o_ e_ r_ => ?_ | refine SlR.ixB (by assumption) (by first | omega | assumption) (by first | omega | assumption) fun b_ o_ e_ => ?_ | refine SlR.ixS (by assumption) (by first | omega | assumption) (by first | omega | assumption) fun b_ o_ a_ n_ c_ e_ s_ => ?_ | fail) | (refine br (fun hc => ?_) (fun hc => ?_) <;> (try simp only [decide_eq_true_eq, decide_eq_false_iff_not, beq_iff_eq, bne_iff_ne, ne_eq, Bool.not_eq_true', Bool.not_eq_false', Bool.not_eq_true, Bool.not_eq_false, beq_eq_false_iff_ne, bne_eq_false_iff_eq, Int.not_lt, Int.not_le, gt_iff_lt, ge_iff_le, Decidable.not_not] at hc)) | (refine H.nw fun g_ H => ?_) | fail) | fail)
  refine (isBank_ok v (r.ext H.oldE)).mono ?_
  rintro v_ g_ ⟨rfl, f⟩
  have H := H.ext f
  repeat' (first | (first | ((refine (within_ok _ _ _).mono ?_; rintro v_ g_ ⟨rfl, rfl⟩; refine ⟨_, rfl, ?_⟩)) | (first | refine ldI (by first | assumption | exact H.ld (by rfl) | exact H.ldO (by assumption)) ?_ | refine ldS (by first | assumption | exact H.ld (by rfl) | exact H.ldO (by assumption)) ?_ | refine ldB (by first | assumption | exact H.ld (by rfl) | exact H.ldO (by assumption)) ?_ | refine ldT (by first | assumption | exact H.ld (by rfl) | exact H.ldO (by assumption)) ?_ | refine re1 (by first | assumption | exact H.ld (by rfl) | exact H.ldO (by assumption)) ?_ | fail) | (first | refine SlR.nxI (by assumption) (by first | omega | assumption) fun b_ o_ e_ r_ => ?_ | refine SlR.nxB (by assumption) (by first | omega | assumption) fun b_ o_ e_ => ?_ | refine SlR.nxS (by assumption) (by first | omega | assumption) fun b_ o_ a_ n_ c_ e_ s_ l_ => ?_ | refine SlR.ixI (by assumption) (by first | omega | assumption) (by first | omega | assumption) fun b_ o_ e_ r_ => ?_ | refine SlR.ixB (by assumption) (by first | omega | assumption) (by first | omega | assumption) fun b_ o_ e_ => ?_ | refine SlR.ixS (by assumption) (by first | omega | assumption) (by first | omega | assumption) fun b_ o_ a_ n_ c_ e_ s_ => ?_ | fail) | (refine br (fun hc => ?_) (fun hc => ?_) <;> (try simp only [decide_eq_true_eq, decide_eq_false_iff_not, beq_iff_eq, bne_iff_ne, ne_eq, Bool.not_eq_true', Bool.not_eq_false', Bool.not_eq_true, Bool.not_eq_false, beq_eq_false_iff_ne, bne_eq_false_iff_eq, Int.not_lt, Int.not_le, gt_iff_lt, ge_iff_le, Decidable.not_not] at hc)) | (refine H.nw fun g_ H => ?_) | fail) | fail)
  exact ⟨_, rfl, rfl, H.oldE⟩

/-! ### Is the picture taken -/

def Taken (n : Nat) (x : BankD) : Prop := ∀ t, t < n → 0 ≤ x.kp t ∧ ∀ f, f < n → f ≠ t → x.hd t f = true
theorem isTaken_ok {b0 : Nat} (v : Inv n T x) (hT : Taken n x) (r : BankR h x d) (c2 : cellAt h b0 2 = some d.d2.v) (c3 : cellAt h b0 3 = some d.d3.v) :
    CallsH PP fn_impl_Bank_isTaken [.pointer (some ⟨b0, 0, none⟩)] h fun v h' => v = .bool true ∧ h' = h := by
  refine calls_impl_Bank_isTaken _ _ ?_
  unfold M_impl_Bank_isTaken
  obtain ⟨i, wf⟩ := v.wf
  obtain ⟨⟨a0, n0, q0⟩, ⟨a1, n1, q1⟩, ⟨a2, n2, q2⟩, ⟨a3, n3, q3⟩, ⟨a4, n4, q4⟩⟩ := d
  obtain ⟨s0, s1, s2, s3, s4⟩ := r
  dsimp only [Hd.v] at s0 s1 s2 s3 s4 c2 c3
  have l2 := s2.len; have l3 := s3.len
  rw [wf.kept] at l2; rw [wf.heard] at l3
  obtain ⟨rfl, -⟩ := l2
  have hn := wf.le
  unfold Taken BankD.kp BankD.hd at hT
  (first | refine ldI (by first | assumption | exact H.ld (by rfl) | exact H.ldO (by assumption)) ?_ | refine ldS (by first | assumption | exact H.ld (by rfl) | exact H.ldO (by assumption)) ?_ | refine ldB (by first | assumption | exact H.ld (by rfl) | exact H.ldO (by assumption)) ?_ | refine ldT (by first | assumption | exact H.ld (by rfl) | exact H.ldO (by assumption)) ?_ | refine re1 (by first | assumption | exact H.ld (by rfl) | exact H.ldO (by assumption)) ?_ | fail)
  refine ⟨UpI n3 fun i g => g = h, UpM n3, UpI.start rfl, ?_⟩
  intro g y hI
  obtain ⟨t, ht, rfl, rfl⟩ := hI.elim
  (refine br (fun hc => ?_) (fun hc => ?_) <;> (try simp only [decide_eq_true_eq, decide_eq_false_iff_not, beq_iff_eq, bne_iff_ne, ne_eq, Bool.not_eq_true', Bool.not_eq_false', Bool.not_eq_true, Bool.not_eq_false, beq_eq_false_iff_ne, bne_eq_false_iff_eq, Int.not_lt, Int.not_le, gt_iff_lt, ge_iff_le, Decidable.not_not] at hc))
  · have ht : t < n2 := by omega
    have hr := wf.hrow t ht
    have hT1 := (hT t ht).1
    repeat' (first | (first | ((refine (within_ok _ _ _).mono ?_; rintro v_ g_ ⟨rfl, rfl⟩; refine ⟨_, rfl, ?_⟩)) | (first | refine ldI (by first | assumption | exact H.ld (by rfl) | exact H.ldO (by assumption)) ?_ | refine ldS (by first | assumption | exact H.ld (by rfl) | exact H.ldO (by assumption)) ?_ | refine ldB (by first | assumption | exact H.ld (by rfl) | exact H.ldO (by assumption)) ?_ | refine ldT (by first | assumption | exact H.ld (by rfl) | exact H.ldO (by assumption)) ?_ | refine re1 (by first | assumption | exact H.ld (by rfl) | exact H.ldO (by assumption)) ?_ | fail) | (first | refine SlR.nxI (by assumption) (by first | omega | assumption) fun b_ o_ e_ r_ => ?_ | refine SlR.nxB (by assumption) (by first | omega | assumption) fun b_ o_ e_ => ?_ | refine SlR.nxS (by assumption) (by first | omega | assumption) fun b_ o_ a_ n_ c_ e_ s_ l_ => ?_ | refine SlR.ixI (by assumption) (by first | omega | assumption) (by first | omega | assumption) fun b_ o_ e_ r_ => ?_ | refine SlR.ixB (by assumption) (by first | omega | assumption) (by first | omega | assumption) fun b_ o_ e_ => ?_ | refine SlR.ixS (by assumption) (by first | omega | assumption) (by first | omega | assumption) fun b_ o_ a_ n_ c_ e_ s_ => ?_ | fail) | (refine br (fun hc => ?_) (fun hc => ?_) <;> (try simp only [decide_eq_true_eq, decide_eq_false_iff_not, beq_iff_eq, bne_iff_ne, ne_eq, Bool.not_eq_true', Bool.not_eq_false', Bool.not_eq_true, Bool.not_eq_false, beq_eq_false_iff_ne, bne_eq_false_iff_eq, Int.not_lt, Int.not_le, gt_iff_lt, ge_iff_le, Decidable.not_not] at hc)) | (refine H.nw fun g_ H => ?_) | fail) | fail)
    · exfalso; omega
    refine ⟨UpI n2 fun i h => h = g, UpM n2, UpI.start rfl, ?_⟩
    intro h y hI
    obtain ⟨f, hf, rfl, rfl⟩ := hI.elim
    (refine br (fun hc => ?_) (fun hc => ?_) <;> (try simp only [decide_eq_true_eq, decide_eq_false_iff_not, beq_iff_eq, bne_iff_ne, ne_eq, Bool.not_eq_true', Bool.not_eq_false', Bool.not_eq_true, Bool.not_eq_false, beq_eq_false_iff_ne, bne_eq_false_iff_eq, Int.not_lt, Int.not_le, gt_iff_lt, ge_iff_le, Decidable.not_not] at hc))
    · have hf : f < n2 := by omega
      have hT2 := (hT t ht).2 f hf
      repeat' (first | (first | ((refine (within_ok _ _ _).mono ?_; rintro v_ g_ ⟨rfl, rfl⟩; refine ⟨_, rfl, ?_⟩)) | (first | refine ldI (by first | assumption | exact H.ld (by rfl) | exact H.ldO (by assumption)) ?_ | refine ldS (by first | assumption | exact H.ld (by rfl) | exact H.ldO (by assumption)) ?_ | refine ldB (by first | assumption | exact H.ld (by rfl) | exact H.ldO (by assumption)) ?_ | refine ldT (by first | assumption | exact H.ld (by rfl) | exact H.ldO (by assumption)) ?_ | refine re1 (by first | assumption | exact H.ld (by rfl) | exact H.ldO (by assumption)) ?_ | fail) | (first | refine SlR.nxI (by assumption) (by first | omega | assumption) fun b_ o_ e_ r_ => ?_ | refine SlR.nxB (by assumption) (by first | omega | assumption) fun b_ o_ e_ => ?_ | refine SlR.nxS (by assumption) (by first | omega | assumption) fun b_ o_ a_ n_ c_ e_ s_ l_ => ?_ | refine SlR.ixI (by assumption) (by first | omega | assumption) (by first | omega | assumption) fun b_ o_ e_ r_ => ?_ | refine SlR.ixB (by assumption) (by first | omega | assumption) (by first | omega | assumption) fun b_ o_ e_ => ?_ | refine SlR.ixS (by assumption) (by first | omega | assumption) (by first | omega | assumption) fun b_ o_ a_ n_ c_ e_ s_ => ?_ | fail) | (refine br (fun hc => ?_) (fun hc => ?_) <;> (try simp only [decide_eq_true_eq, decide_eq_false_iff_not, beq_iff_eq, bne_iff_ne, ne_eq, Bool.not_eq_true', Bool.not_eq_false', Bool.not_eq_true, Bool.not_eq_false, beq_eq_false_iff_ne, bne_eq_false_iff_eq, Int.not_lt, Int.not_le, gt_iff_lt, ge_iff_le, Decidable.not_not] at hc)) | (refine H.nw fun g_ H => ?_) | fail) | fail)
      · have := hT2 (by omega); rw [this] at hc; cases hc
      · exact UpI.next (by omega) hf rfl
      · exact UpI.next (by omega) hf rfl
    · exact UpI.next (by omega) (by omega) rfl
  · exact ⟨rfl, rfl⟩
theorem IsTaken_ok (v : Inv n T x) (hT : Taken n x) (r : BankR h x d) : CallsH PP fn_impl_IsTaken [.agg ⟨d.cells⟩] h fun v h' => v = .tuple ⟨[.bool true, .bool true]⟩ ∧ Ext h h' := by
  refine calls_impl_IsTaken _ _ _ _ _ _ _ _ _ _ _ _ _ _ _ ?_
  unfold M_impl_IsTaken
  have H := Own.start h
  repeat' (first | (first | ((refine (within_ok _ _ _).mono ?_; rintro v_ g_ ⟨rfl, rfl⟩; refine ⟨_, rfl, ?_⟩)) | (first | refine ldI (by first | assumption | exact H.ld (by rfl) | exact H.ldO (by assumption)) ?_ | refine ldS (by first | assumption | exact H.ld (by rfl) | exact H.ldO (by assumption)) ?_ | refine ldB (by first | assumption | exact H.ld (by rfl) | exact H.ldO (by assumption)) ?_ | refine ldT (by first | assumption | exact H.ld (by rfl) | exact H.ldO (by assumption)) ?_ | refine re1 (by first | assumption | exact H.ld (by rfl) | exact H.ldO (by assumption)) ?_ | fail) | (first | refine SlR.nxI (by assumption) (by first | omega | assumption) fun b_ o_ e_ r_ => ?_ | refine SlR.nxB (by assumption) (by first | omega | assumption) fun b_ o_ e_ => ?_ | refine SlR.nxS (by assumption) (by first | omega | assumption) fun b_ o_ a_ n_ c_ e_ s_ l_ => ?_ | refine SlR.ixI (by assumption) (by first | omega | assumption) (by first | omega | assumption) fun b_ o_ e_ r_ => ?_ | refine SlR.ixB (by assumption) (by first | omega | assumption) (by first | omega | assumption) fun b_ o_ e_ => ?_ | refine SlR.ixS (by assumption) (by first | omega | assumption) (by first | omega | assumption) fun b_ o_ a_ n_ c_ e_ s_ => ?_ | fail) | (refine br (fun hc => ?_) (fun hc => ?_) <;> (try simp only [decide_eq_true_eq, decide_eq_false_iff_not, beq_iff_eq, bne_iff_ne, ne_eq, Bool.not_eq_true', Bool.not_eq_false', Bool.not_eq_true, Bool.not_eq_false, beq_eq_false_iff_ne, bne_eq_false_iff_eq, Int.not_lt, Int.not_le, gt_iff_lt, ge_iff_le, Decidable.not_not] at hc)) | (refine H.nw fun g_ H => ?_) | fail) | fail)
  refine (isBank_ok v (r.ext H.oldE)).mono ?_
  rintro v_ g_ ⟨rfl, f⟩
  have H := H.ext f
  refine ⟨_, rfl, ?_⟩
  (refine br (fun hc => ?_) (fun hc => ?_) <;> (try simp only [decide_eq_true_eq, decide_eq_false_iff_not, beq_iff_eq, bne_iff_ne, ne_eq, Bool.not_eq_true', Bool.not_eq_false', Bool.not_eq_true, Bool.not_eq_false, beq_eq_false_iff_ne, bne_eq_false_iff_eq, Int.not_lt, Int.not_le, gt_iff_lt, ge_iff_le, Decidable.not_not] at hc))
  · cases hc
  repeat' (first | (first | ((refine (within_ok _ _ _).mono ?_; rintro v_ g_ ⟨rfl, rfl⟩; refine ⟨_, rfl, ?_⟩)) | (first | refine ldI (by first | assumption | exact H.ld (by rfl) | exact H.ldO (by assumption)) ?_ | refine ldS (by first | assumption | exact H.ld (by rfl) | exact H.ldO (by assumption)) ?_ | refine ldB (by first | assumption | exact H.ld (by rfl) | exact H.ldO (by assumption)) ?_ | refine ldT (by first | assumption | exact H.ld (by rfl) | exact H.ldO (by assumption)) ?_ | refine re1 (by first | assumption | exact H.ld (by rfl) | exact H.ldO (by assumption)) ?_ | fail) | (first | refine SlR.nxI (by assumption) (by first | omega | assumption) fun b_ o_ e_ r_ => ?_ | refine SlR.nxB (by assumption) (by first | omega | assumption) fun b_ o_ e_ => ?_ | refine SlR.nxS (by assumption) (by first | omega | assumption) fun b_ o_ a_ n_ c_ e_ s_ l_ => ?_ | refine SlR.ixI (by assumption) (by first | omega | assumption) (by first | omega | assumption) fun b_ o_ e_ r_ => ?_ | refine SlR.ixB (by assumption) (by first | omega | assumption) (by first | omega | assumption) fun b_ o_ e_ => ?_ | refine SlR.ixS (by assumption) (by first | omega | assumption) (by first | omega | assumption) fun b_ o_ a_ n_ c_ e_ s_ => ?_ | fail) | (refine br (fun hc => ?_) (fun hc => ?_) <;> (try simp only [decide_eq_true_eq, decide_eq_false_iff_not, beq_iff_eq, bne_iff_ne, ne_eq, Bool.not_eq_true', Bool.not_eq_false', Bool.not_eq_true, Bool.not_eq_false, beq_eq_false_iff_ne, bne_eq_false_iff_eq, Int.not_lt, Int.not_le, gt_iff_lt, ge_iff_le, Decidable.not_not] at hc)) | (refine H.nw fun g_ H => ?_) | fail) | fail)
  refine (isTaken_ok v hT (r.ext H.oldE) (H.ld (by rfl)) (H.ld (by rfl))).mono ?_
  rintro v_ g_ ⟨rfl, rfl⟩
  exact ⟨_, rfl, rfl, H.oldE⟩

/-! ### Copies -/

theorem CloneI {xs : List Int} {a : Option Addr} {n c : Nat} (r : SlR kI h xs a n c) (hn : n ≤ 1048576) : CallsH PP fn_slices_Clone_int [.slice a n c] h fun v h' => ∃ a' c', v = .slice a' n c' ∧ Own h' [slA kI xs a' n c', oldA h] := by
  refine calls_slices_Clone_int _ _ _ ?_
  unfold M_slices_Clone_int
  have H := Own.start h
  refine ⟨fun ha => ?_, fun ha => ?_⟩
  · obtain ⟨F, hl, hc, hs⟩ := r
    rcases hs with ⟨rfl, rfl, rfl⟩ | ⟨b, pre, cs, post, G, rfl, _⟩
    · have h0 : n = 0 := by omega
      subst h0
      have hx : xs = [] := List.eq_nil_of_length_eq_zero hl.symm
      subst hx
      exact ⟨none, 0, rfl, H.slNil kI⟩
    · cases ha
  · intro h2 e2
    have H := (H.made0 kI).at e2
    refine H.apR (r.ext H.oldE) (flatI _) (by omega) fun a' c' h3 H => ?_
    rw [Nat.zero_add, List.nil_append] at *
    exact ⟨a', c', rfl, H⟩
theorem CloneB {xs : List Bool} {a : Option Addr} {n c : Nat} (r : SlR kB h xs a n c) (hn : n ≤ 1048576) : CallsH PP fn_slices_Clone_bool [.slice a n c] h fun v h' => ∃ a' c', v = .slice a' n c' ∧ Own h' [slA kB xs a' n c', oldA h] := by
  refine calls_slices_Clone_bool _ _ _ ?_
  unfold M_slices_Clone_bool
  have H := Own.start h
  refine ⟨fun ha => ?_, fun ha => ?_⟩
  · obtain ⟨F, hl, hc, hs⟩ := r
    rcases hs with ⟨rfl, rfl, rfl⟩ | ⟨b, pre, cs, post, G, rfl, _⟩
    · have h0 : n = 0 := by omega
      subst h0
      have hx : xs = [] := List.eq_nil_of_length_eq_zero hl.symm
      subst hx
      exact ⟨none, 0, rfl, H.slNil kB⟩
    · cases ha
  · intro h2 e2
    have H := (H.made0 kB).at e2
    refine H.apR (r.ext H.oldE) (flatB _) (by omega) fun a' c' h3 H => ?_
    rw [Nat.zero_add, List.nil_append] at *
    exact ⟨a', c', rfl, H⟩

theorem take_snoc {α : Type} {xs : List α} {i : Nat} (d : α) (hi : i < xs.length) : xs.take i ++ [xs.getD i d] = xs.take (i + 1) := by
  rw [List.take_succ_eq_append_getElem hi, getD_of d hi]
theorem cloneBank_ok {i : Nat} (wf : WfB n i x) (hi : i ≤ 1000) (r : BankR h x d) : CallsH PP fn_impl_cloneBank [.agg ⟨d.cells⟩] h fun v h' => ∃ d' : BankH, v = .agg ⟨d'.cells⟩ ∧ Own h' (bankL x d' [oldA h]) := by
  refine calls_impl_cloneBank _ _ _ _ _ _ _ _ _ _ _ _ _ _ _ ?_
  unfold M_impl_cloneBank
  obtain ⟨⟨a0, n0, q0⟩, ⟨a1, n1, q1⟩, ⟨a2, n2, q2⟩, ⟨a3, n3, q3⟩, ⟨a4, n4, q4⟩⟩ := d
  obtain ⟨s0, s1, s2, s3, s4⟩ := r
  dsimp only at s0 s1 s2 s3 s4
  dsimp only
  have l0 := s0.len; have l1 := s1.len; have l2 := s2.len; have l3 := s3.len; have l4 := s4.len
  rw [wf.coins] at l0; rw [wf.ways] at l1; rw [wf.kept] at l2; rw [wf.heard] at l3; rw [wf.found] at l4
  obtain ⟨rfl, -⟩ := l0
  have hn := wf.le
  have hnn := mul_le5 hn
  have H := Own.start h
  refine H.nw fun h6 H => ?_
  (refine H.nw fun g_ H => ?_)
  intro K8 hK8
  have fin : ∀ (g : Heap) (b : Nat) (a0' : Option Addr) (c0' : Nat) (a2' : Option Addr) (c2' : Nat), Own g [rowA b ty_impl_Bank [.slice a0' n0 c0', .slice none 0 0, .slice a2' n2 c2', .slice none 0 0, .slice none 0 0],
      slA kI x.coins a0' n0 c0', slA kI x.kept a2' n2 c2', rowA h6.size ty_impl_Bank [.slice none 0 0, .slice none 0 0, .slice none 0 0, .slice none 0 0, .slice none 0 0], rowA h.size ty_impl_Bank [.slice a0 n0 q0, .slice a1 n1 q1, .slice a2 n2 q2, .slice a3 n3 q3, .slice a4 n4 q4], oldA h] →
      K8 [.pointer (some ⟨b, 0, none⟩)] g := by
    intro g b a0' c0' a2' c2' H
    apply hK8
    (first | refine ldI (by first | assumption | exact H.ld (by rfl) | exact H.ldO (by assumption)) ?_ | refine ldS (by first | assumption | exact H.ld (by rfl) | exact H.ldO (by assumption)) ?_ | refine ldB (by first | assumption | exact H.ld (by rfl) | exact H.ldO (by assumption)) ?_ | refine ldT (by first | assumption | exact H.ld (by rfl) | exact H.ldO (by assumption)) ?_ | refine re1 (by first | assumption | exact H.ld (by rfl) | exact H.ldO (by assumption)) ?_ | fail)
    refine ⟨UpI n1 fun i g => ∃ a1' c1', Own g [rowA b ty_impl_Bank [.slice a0' n0 c0', .slice a1' i c1', .slice a2' n2 c2', .slice none 0 0, .slice none 0 0], slA kIS (x.ways.take i) a1' i c1',
      slA kI x.coins a0' n0 c0', slA kI x.kept a2' n2 c2', rowA h6.size ty_impl_Bank [.slice none 0 0, .slice none 0 0, .slice none 0 0, .slice none 0 0, .slice none 0 0], rowA h.size ty_impl_Bank [.slice a0 n0 q0, .slice a1 n1 q1, .slice a2 n2 q2, .slice a3 n3 q3, .slice a4 n4 q4], oldA h], UpM n1,
      UpI.start ⟨none, 0, (H.slNil kIS).to (by repeat' (first | exact trivial | exact rfl | omega | (refine ⟨?_, ?_⟩)))⟩, ?_⟩
    intro g1 y hI
    obtain ⟨j, hj, rfl, a1', c1', H⟩ := hI.elim
    (refine br (fun hc => ?_) (fun hc => ?_) <;> (try simp only [decide_eq_true_eq, decide_eq_false_iff_not, beq_iff_eq, bne_iff_ne, ne_eq, Bool.not_eq_true', Bool.not_eq_false', Bool.not_eq_true, Bool.not_eq_false, beq_eq_false_iff_ne, bne_eq_false_iff_eq, Int.not_lt, Int.not_le, gt_iff_lt, ge_iff_le, Decidable.not_not] at hc))
    · have hj : j < n1 := by omega
      have hw := wf.way j
      repeat' (first | (first | ((refine (within_ok _ _ _).mono ?_; rintro v_ g_ ⟨rfl, rfl⟩; refine ⟨_, rfl, ?_⟩)) | (first | refine ldI (by first | assumption | exact H.ld (by rfl) | exact H.ldO (by assumption)) ?_ | refine ldS (by first | assumption | exact H.ld (by rfl) | exact H.ldO (by assumption)) ?_ | refine ldB (by first | assumption | exact H.ld (by rfl) | exact H.ldO (by assumption)) ?_ | refine ldT (by first | assumption | exact H.ld (by rfl) | exact H.ldO (by assumption)) ?_ | refine re1 (by first | assumption | exact H.ld (by rfl) | exact H.ldO (by assumption)) ?_ | fail) | (first | refine SlR.nxI (by assumption) (by first | omega | assumption) fun b_ o_ e_ r_ => ?_ | refine SlR.nxB (by assumption) (by first | omega | assumption) fun b_ o_ e_ => ?_ | refine SlR.nxS (by assumption) (by first | omega | assumption) fun b_ o_ a_ n_ c_ e_ s_ l_ => ?_ | refine SlR.ixI (by assumption) (by first | omega | assumption) (by first | omega | assumption) fun b_ o_ e_ r_ => ?_ | refine SlR.ixB (by assumption) (by first | omega | assumption) (by first | omega | assumption) fun b_ o_ e_ => ?_ | refine SlR.ixS (by assumption) (by first | omega | assumption) (by first | omega | assumption) fun b_ o_ a_ n_ c_ e_ s_ => ?_ | fail) | (refine br (fun hc => ?_) (fun hc => ?_) <;> (try simp only [decide_eq_true_eq, decide_eq_false_iff_not, beq_iff_eq, bne_iff_ne, ne_eq, Bool.not_eq_true', Bool.not_eq_false', Bool.not_eq_true, Bool.not_eq_false, beq_eq_false_iff_ne, bne_eq_false_iff_eq, Int.not_lt, Int.not_le, gt_iff_lt, ge_iff_le, Decidable.not_not] at hc)) | (refine H.nw fun g_ H => ?_) | fail) | ((refine (CloneI (SlR.ext (by assumption) H.oldE) (by omega)).mono ?_; rintro v_ g_ ⟨a_, c_, rfl, H2⟩; have H := H.lift1 H2; refine ⟨_, _, _, rfl, ?_⟩)) | (first | refine H.st (by simp) fun g_ H => ?_ | refine H.sts (by simp) fun g_ H => ?_ | fail) | (refine H.apIn (by omega) fun a_ c_ g_ H => ?_) | fail)
      refine UpI.next (by omega) hj ⟨_, _, Own.chk H (by rfl) ?_⟩
      exact H.to (by refine ⟨rfl, take_snoc [] (by rw [wf.ways]; omega), ?_⟩; exact (by repeat' (first | exact trivial | exact rfl | omega | (refine ⟨?_, ?_⟩))))
    have hjn : j = n1 := by omega
    subst hjn
    rw [List.take_of_length_le (by rw [wf.ways]; omega)] at H
    (first | refine ldI (by first | assumption | exact H.ld (by rfl) | exact H.ldO (by assumption)) ?_ | refine ldS (by first | assumption | exact H.ld (by rfl) | exact H.ldO (by assumption)) ?_ | refine ldB (by first | assumption | exact H.ld (by rfl) | exact H.ldO (by assumption)) ?_ | refine ldT (by first | assumption | exact H.ld (by rfl) | exact H.ldO (by assumption)) ?_ | refine re1 (by first | assumption | exact H.ld (by rfl) | exact H.ldO (by assumption)) ?_ | fail)
    refine ⟨UpI n3 fun i g => ∃ a3' c3' a4' c4', Own g [rowA b ty_impl_Bank [.slice a0' n0 c0', .slice a1' j c1', .slice a2' n2 c2', .slice a3' i c3', .slice a4' i c4'], slA kBS (x.heard.take i) a3' i c3', slA kIS (x.found.take i) a4' i c4', slA kIS x.ways a1' j c1',
      slA kI x.coins a0' n0 c0', slA kI x.kept a2' n2 c2', rowA h6.size ty_impl_Bank [.slice none 0 0, .slice none 0 0, .slice none 0 0, .slice none 0 0, .slice none 0 0], rowA h.size ty_impl_Bank [.slice a0 n0 q0, .slice a1 j q1, .slice a2 n2 q2, .slice a3 n3 q3, .slice a4 n4 q4], oldA h], UpM n3,
      UpI.start ⟨none, 0, none, 0, ((H.slNil kIS).slNil kBS).to (by repeat' (first | exact trivial | exact rfl | omega | (refine ⟨?_, ?_⟩)))⟩, ?_⟩
    intro g1 y hI
    obtain ⟨k, hk, rfl, a3', c3', a4', c4', H⟩ := hI.elim
    (refine br (fun hc => ?_) (fun hc => ?_) <;> (try simp only [decide_eq_true_eq, decide_eq_false_iff_not, beq_iff_eq, bne_iff_ne, ne_eq, Bool.not_eq_true', Bool.not_eq_false', Bool.not_eq_true, Bool.not_eq_false, beq_eq_false_iff_ne, bne_eq_false_iff_eq, Int.not_lt, Int.not_le, gt_iff_lt, ge_iff_le, Decidable.not_not] at hc))
    · have hk : k < n3 := by omega
      have hhr := wf.hrow k (by omega)
      have hfr := wf.frow k (by omega)
      repeat' (first | (first | ((refine (within_ok _ _ _).mono ?_; rintro v_ g_ ⟨rfl, rfl⟩; refine ⟨_, rfl, ?_⟩)) | (first | refine ldI (by first | assumption | exact H.ld (by rfl) | exact H.ldO (by assumption)) ?_ | refine ldS (by first | assumption | exact H.ld (by rfl) | exact H.ldO (by assumption)) ?_ | refine ldB (by first | assumption | exact H.ld (by rfl) | exact H.ldO (by assumption)) ?_ | refine ldT (by first | assumption | exact H.ld (by rfl) | exact H.ldO (by assumption)) ?_ | refine re1 (by first | assumption | exact H.ld (by rfl) | exact H.ldO (by assumption)) ?_ | fail) | (first | refine SlR.nxI (by assumption) (by first | omega | assumption) fun b_ o_ e_ r_ => ?_ | refine SlR.nxB (by assumption) (by first | omega | assumption) fun b_ o_ e_ => ?_ | refine SlR.nxS (by assumption) (by first | omega | assumption) fun b_ o_ a_ n_ c_ e_ s_ l_ => ?_ | refine SlR.ixI (by assumption) (by first | omega | assumption) (by first | omega | assumption) fun b_ o_ e_ r_ => ?_ | refine SlR.ixB (by assumption) (by first | omega | assumption) (by first | omega | assumption) fun b_ o_ e_ => ?_ | refine SlR.ixS (by assumption) (by first | omega | assumption) (by first | omega | assumption) fun b_ o_ a_ n_ c_ e_ s_ => ?_ | fail) | (refine br (fun hc => ?_) (fun hc => ?_) <;> (try simp only [decide_eq_true_eq, decide_eq_false_iff_not, beq_iff_eq, bne_iff_ne, ne_eq, Bool.not_eq_true', Bool.not_eq_false', Bool.not_eq_true, Bool.not_eq_false, beq_eq_false_iff_ne, bne_eq_false_iff_eq, Int.not_lt, Int.not_le, gt_iff_lt, ge_iff_le, Decidable.not_not] at hc)) | (refine H.nw fun g_ H => ?_) | fail) | ((refine (CloneI (SlR.ext (by assumption) H.oldE) (by omega)).mono ?_; rintro v_ g_ ⟨a_, c_, rfl, H2⟩; have H := H.lift1 H2; refine ⟨_, _, _, rfl, ?_⟩)) | ((refine (CloneB (SlR.ext (by assumption) H.oldE) (by omega)).mono ?_; rintro v_ g_ ⟨a_, c_, rfl, H2⟩; have H := H.lift1 H2; refine ⟨_, _, _, rfl, ?_⟩)) | (first | refine H.st (by simp) fun g_ H => ?_ | refine H.sts (by simp) fun g_ H => ?_ | fail) | (refine H.apIn (by omega) fun a_ c_ g_ H => ?_) | fail)
      refine UpI.next (by omega) hk ⟨_, _, _, _, Own.chk H (by rfl) ?_⟩
      exact H.to (by refine ⟨rfl, take_snoc [] (by rw [wf.heard]; omega), take_snoc [] (by rw [wf.found]; omega), ?_⟩; exact (by repeat' (first | exact trivial | exact rfl | omega | (refine ⟨?_, ?_⟩))))
    have hkn : k = n3 := by omega
    subst hkn
    rw [List.take_of_length_le (by rw [wf.heard]; omega), List.take_of_length_le (by rw [wf.found]; omega)] at H
    repeat' (first | (first | ((refine (within_ok _ _ _).mono ?_; rintro v_ g_ ⟨rfl, rfl⟩; refine ⟨_, rfl, ?_⟩)) | (first | refine ldI (by first | assumption | exact H.ld (by rfl) | exact H.ldO (by assumption)) ?_ | refine ldS (by first | assumption | exact H.ld (by rfl) | exact H.ldO (by assumption)) ?_ | refine ldB (by first | assumption | exact H.ld (by rfl) | exact H.ldO (by assumption)) ?_ | refine ldT (by first | assumption | exact H.ld (by rfl) | exact H.ldO (by assumption)) ?_ | refine re1 (by first | assumption | exact H.ld (by rfl) | exact H.ldO (by assumption)) ?_ | fail) | (first | refine SlR.nxI (by assumption) (by first | omega | assumption) fun b_ o_ e_ r_ => ?_ | refine SlR.nxB (by assumption) (by first | omega | assumption) fun b_ o_ e_ => ?_ | refine SlR.nxS (by assumption) (by first | omega | assumption) fun b_ o_ a_ n_ c_ e_ s_ l_ => ?_ | refine SlR.ixI (by assumption) (by first | omega | assumption) (by first | omega | assumption) fun b_ o_ e_ r_ => ?_ | refine SlR.ixB (by assumption) (by first | omega | assumption) (by first | omega | assumption) fun b_ o_ e_ => ?_ | refine SlR.ixS (by assumption) (by first | omega | assumption) (by first | omega | assumption) fun b_ o_ a_ n_ c_ e_ s_ => ?_ | fail) | (refine br (fun hc => ?_) (fun hc => ?_) <;> (try simp only [decide_eq_true_eq, decide_eq_false_iff_not, beq_iff_eq, bne_iff_ne, ne_eq, Bool.not_eq_true', Bool.not_eq_false', Bool.not_eq_true, Bool.not_eq_false, beq_eq_false_iff_ne, bne_eq_false_iff_eq, Int.not_lt, Int.not_le, gt_iff_lt, ge_iff_le, Decidable.not_not] at hc)) | (refine H.nw fun g_ H => ?_) | fail) | (first | refine H.st (by simp) fun g_ H => ?_ | refine H.sts (by simp) fun g_ H => ?_ | fail) | fail)
    have e4 : k = n4 := by omega
    exact ⟨⟨⟨_, _, _⟩, ⟨_, _, _⟩, ⟨_, _, _⟩, ⟨_, _, _⟩, ⟨_, _, _⟩⟩, rfl, H.to (by repeat' (first | exact trivial | exact rfl | omega | (refine ⟨?_, ?_⟩)))⟩
  repeat' (first | (first | ((refine (within_ok _ _ _).mono ?_; rintro v_ g_ ⟨rfl, rfl⟩; refine ⟨_, rfl, ?_⟩)) | (first | refine ldI (by first | assumption | exact H.ld (by rfl) | exact H.ldO (by assumption)) ?_ | refine ldS (by first | assumption | exact H.ld (by rfl) | exact H.ldO (by assumption)) ?_ | refine ldB (by first | assumption | exact H.ld (by rfl) | exact H.ldO (by assumption)) ?_ | refine ldT (by first | assumption | exact H.ld (by rfl) | exact H.ldO (by assumption)) ?_ | refine re1 (by first | assumption | exact H.ld (by rfl) | exact H.ldO (by assumption)) ?_ | fail) | (first | refine SlR.nxI (by assumption) (by first | omega | assumption) fun b_ o_ e_ r_ => ?_ | refine SlR.nxB (by assumption) (by first | omega | assumption) fun b_ o_ e_ => ?_ | refine SlR.nxS (by assumption) (by first | omega | assumption) fun b_ o_ a_ n_ c_ e_ s_ l_ => ?_ | refine SlR.ixI (by assumption) (by first | omega | assumption) (by first | omega | assumption) fun b_ o_ e_ r_ => ?_ | refine SlR.ixB (by assumption) (by first | omega | assumption) (by first | omega | assumption) fun b_ o_ e_ => ?_ | refine SlR.ixS (by assumption) (by first | omega | assumption) (by first | omega | assumption) fun b_ o_ a_ n_ c_ e_ s_ => ?_ | fail) | (refine br (fun hc => ?_) (fun hc => ?_) <;> (try simp only [decide_eq_true_eq, decide_eq_false_iff_not, beq_iff_eq, bne_iff_ne, ne_eq, Bool.not_eq_true', Bool.not_eq_false', Bool.not_eq_true, Bool.not_eq_false, beq_eq_false_iff_ne, bne_eq_false_iff_eq, Int.not_lt, Int.not_le, gt_iff_lt, ge_iff_le, Decidable.not_not] at hc)) | (refine H.nw fun g_ H => ?_) | fail) | ((refine (CloneI (SlR.ext (by assumption) H.oldE) (by omega)).mono ?_; rintro v_ g_ ⟨a_, c_, rfl, H2⟩; have H := H.lift1 H2; refine ⟨_, _, _, rfl, ?_⟩)) | (first | refine H.st (by simp) fun g_ H => ?_ | refine H.sts (by simp) fun g_ H => ?_ | fail) | (refine fin _ _ _ _ _ _ (Own.chk H (by rfl) ?_); exact H.to (by repeat' (first | exact trivial | exact rfl | omega | (refine ⟨?_, ?_⟩)))) | (refine ⟨?_, ?_⟩) | fail)
end
end Go.Proofs.Ytjmhahjmbmiepaa.D
