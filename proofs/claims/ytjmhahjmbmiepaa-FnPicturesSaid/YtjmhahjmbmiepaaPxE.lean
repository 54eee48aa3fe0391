/- The law of pictures. -/
import Derived.Test.YtjmhahjmbmiepaaPxD
import Derived.Test.YtjmhahjmbmiepaaDrB
namespace Go.Proofs.Ytjmhahjmbmiepaa.D
open Go
set_option linter.unusedVariables false
set_option linter.unusedSimpArgs false

/-! ### The least of some numbers: a measure that only the proof sees -/

theorem least_ex {S : Nat → Prop} : ∀ m, S m → ∃ k, S k ∧ ∀ j, S j → k ≤ j := by
  intro m
  induction m using Nat.strongRecOn with
  | _ m ih =>
    intro hm
    by_cases h : ∃ j, j < m ∧ S j
    · obtain ⟨j, hj, hs⟩ := h
      exact ih j hj hs
    · exact ⟨m, hm, fun j hj => Nat.le_of_not_lt fun hlt => h ⟨j, hlt, hj⟩⟩
open Classical in
noncomputable def lst (S : Nat → Prop) : Nat := if h : ∃ k, S k ∧ ∀ j, S j → k ≤ j then h.choose else 0
theorem lst_spec {S : Nat → Prop} {m : Nat} (h : S m) : S (lst S) ∧ ∀ j, S j → lst S ≤ j := by
  have hx := least_ex m h
  unfold lst
  rw [dif_pos hx]
  exact hx.choose_spec
/-- A loop whose measure is a number that goes with the invariant. -/
theorem lst_next {S S' : Nat → Prop} {m' : Nat} (h' : S' m') (hlt : m' < lst S) : (∃ m, S' m) ∧ lst S' < lst S := ⟨⟨m', h'⟩, Nat.lt_of_le_of_lt ((lst_spec h').2 m' h') hlt⟩

section
variable {h : Heap} {n : Nat} {T : Int} {x : BankD} {d e : BankH}
theorem sameBanks_R (r : BankR h x d) (r' : BankR h x e) : CallsH PP fn_laws_sameBanks [.agg ⟨d.cells⟩, .agg ⟨e.cells⟩] h fun v h' => v = .bool true ∧ Ext h h' := by
  obtain ⟨⟨F0, s0⟩, ⟨F1, s1⟩, ⟨F2, s2⟩, ⟨F3, s3⟩, ⟨F4, s4⟩⟩ := r
  obtain ⟨⟨G0, t0⟩, ⟨G1, t1⟩, ⟨G2, t2⟩, ⟨G3, t3⟩, ⟨G4, t4⟩⟩ := r'
  exact sameBanks_ok ⟨s0, s1, s2, s3, s4⟩ ⟨t0, t1, t2, t3, t4⟩
theorem Inv.wf40 (v : Inv n T x) : WfB n 40 x := by
  obtain ⟨i, wf⟩ := v.wf
  refine { wf with way := fun j => ?_ }
  rcases Nat.lt_or_ge j (n * n) with hj | hj
  · have h1 : j / n < n := Nat.div_lt_of_lt_mul hj
    have h2 : j % n < n := Nat.mod_lt _ wf.pos
    have := v.len (j / n) (j % n) h1 h2
    unfold BankD.w at this
    rw [Nat.div_add_mod'] at this
    split at this <;> omega
  · rw [List.getD_eq_getElem?_getD, List.getElem?_eq_none (by rw [wf.ways]; exact hj)]; simp
theorem playD_no {xs : List Int} {ss : List StepD} (h : (playD xs ss).ok = false) : True := trivial
theorem playD_len {xs : List Int} {ss : List StepD} (h : (playD xs ss).ok = true) : coinsOk xs = true := by
  unfold playD at h
  split at h
  · rename_i hc
    simp only [Bool.and_eq_true] at hc
    exact hc.1
  · cases h

/-- The drain: what holds at the head of each round. -/
def Drain (h0 : Heap) (b n : Nat) (T : Int) (vs : List Value) (g : Heap) (m : Nat) : Prop :=
  ∃ (t : Bool) (y : BankD) (d : BankH), vs = [.bool t] ∧ Inv n T y ∧ y.begun n ∧ (t = false → ∀ f t, f < n → t < n → y.w n f t = []) ∧ Own g (rowA b ty_impl_Bank d.cells :: bankL y d [oldA h0]) ∧ m = 2 * (y.todo n).toNat + (if t = true then 1 else 0)

theorem FnPictures_ok {a : Option Addr} {c : Nat} (cd : CodeR h a n) : CallsH PP fn_laws_FnPictures [.slice a n c] h fun v h' => v = .bool true ∧ Ext h h' := by
  refine calls_laws_FnPictures _ _ _ ?_
  unfold M_laws_FnPictures
  (refine br (fun hc => ?_) (fun hc => ?_) <;> (try simp only [decide_eq_true_eq, decide_eq_false_iff_not, beq_iff_eq, bne_iff_ne, ne_eq, Bool.not_eq_true', Bool.not_eq_false', Bool.not_eq_true, Bool.not_eq_false, beq_eq_false_iff_ne, bne_eq_false_iff_eq, Int.not_lt, Int.not_le, gt_iff_lt, ge_iff_le, Decidable.not_not] at hc))
  · exact ⟨rfl, Frm.refl _ _⟩
  refine (DrawPlayBank_ok cd).mono ?_
  rintro v g0 ⟨xs, ss, a1, n1, c1, a2, n2, c2, rfl, hn1, hn2, H⟩
  refine ⟨_, _, _, _, _, _, rfl, ?_⟩
  have ln := H.ln a1 n1 c1
  refine (impl_PlayBank_ok (by omega) H).mono ?_
  rintro v g1 ⟨d, a3, n3, c3, rfl, H⟩
  refine ⟨_, _, _, _, _, _, _, _, _, _, _, _, _, _, _, _, _, _, _, rfl, ?_⟩
  refine H.nw fun g2 H => ?_
  refine H.sts (by simp) fun g3 H => ?_
  have H : Own g3 (slA kI xs a1 n1 c1 :: slA kSI ss a2 n2 c2 :: rowA g1.size ty_impl_Bank d.cells :: bankL (playD xs ss).bank d [slA kB (playD xs ss).did a3 n3 c3, oldA h]) := H.to (by repeat' (first | exact trivial | exact rfl | omega | (refine ⟨?_, ?_⟩)))
  refine (spec_PlayBank_ok (by omega) H).mono ?_
  rintro v g4 ⟨e, a4, n4, c4, rfl, H⟩
  refine ⟨_, _, _, _, _, _, _, _, _, _, _, _, _, _, _, _, _, _, _, rfl, ?_⟩
  refine H.nw fun g5 H => ?_
  refine H.sts (by simp) fun g6 H => ?_
  (refine br (fun hc => ?_) (fun hc => ?_) <;> (try simp only [decide_eq_true_eq, decide_eq_false_iff_not, beq_iff_eq, bne_iff_ne, ne_eq, Bool.not_eq_true', Bool.not_eq_false', Bool.not_eq_true, Bool.not_eq_false, beq_eq_false_iff_ne, bne_eq_false_iff_eq, Int.not_lt, Int.not_le, gt_iff_lt, ge_iff_le, Decidable.not_not] at hc))
  rotate_left
  · simp at hc
  obtain ⟨F1, s1⟩ := H.rd a3 n3 c3
  obtain ⟨F2, s2⟩ := H.rd a4 n4 c4
  refine (sameBools_ok s1 s2).mono ?_
  rintro v g7 ⟨rfl, rfl⟩
  refine ⟨_, rfl, ?_⟩
  (refine br (fun hc => ?_) (fun hc => ?_) <;> (try simp only [decide_eq_true_eq, decide_eq_false_iff_not, beq_iff_eq, bne_iff_ne, ne_eq, Bool.not_eq_true', Bool.not_eq_false', Bool.not_eq_true, Bool.not_eq_false, beq_eq_false_iff_ne, bne_eq_false_iff_eq, Int.not_lt, Int.not_le, gt_iff_lt, ge_iff_le, Decidable.not_not] at hc))
  rotate_left
  · simp at hc
  repeat' (first | (first | ((refine (within_ok _ _ _).mono ?_; rintro v_ g_ ⟨rfl, rfl⟩; refine ⟨_, rfl, ?_⟩)) | (first | refine ldI (by first | assumption | exact H.ld (by rfl) | exact H.ldO (by assumption)) ?_ | refine ldS (by first | assumption | exact H.ld (by rfl) | exact H.ldO (by assumption)) ?_ | refine ldB (by first | assumption | exact H.ld (by rfl) | exact H.ldO (by assumption)) ?_ | refine ldT (by first | assumption | exact H.ld (by rfl) | exact H.ldO (by assumption)) ?_ | refine re1 (by first | assumption | exact H.ld (by rfl) | exact H.ldO (by assumption)) ?_ | fail) | (first | refine SlR.nxI (by assumption) (by first | omega | assumption) fun b_ o_ e_ r_ => ?_ | refine SlR.nxB (by assumption) (by first | omega | assumption) fun b_ o_ e_ => ?_ | refine SlR.nxS (by assumption) (by first | omega | assumption) fun b_ o_ a_ n_ c_ e_ s_ l_ => ?_ | refine SlR.ixI (by assumption) (by first | omega | assumption) (by first | omega | assumption) fun b_ o_ e_ r_ => ?_ | refine SlR.ixB (by assumption) (by first | omega | assumption) (by first | omega | assumption) fun b_ o_ e_ => ?_ | refine SlR.ixS (by assumption) (by first | omega | assumption) (by first | omega | assumption) fun b_ o_ a_ n_ c_ e_ s_ => ?_ | fail) | (refine br (fun hc => ?_) (fun hc => ?_) <;> (try simp only [decide_eq_true_eq, decide_eq_false_iff_not, beq_iff_eq, bne_iff_ne, ne_eq, Bool.not_eq_true', Bool.not_eq_false', Bool.not_eq_true, Bool.not_eq_false, beq_eq_false_iff_ne, bne_eq_false_iff_eq, Int.not_lt, Int.not_le, gt_iff_lt, ge_iff_le, Decidable.not_not] at hc)) | (refine H.nw fun g_ H => ?_) | fail) | fail)
  have rd : BankR g7 (playD xs ss).bank d := Own.bankR (L := []) (H.to (by repeat' (first | exact trivial | exact rfl | omega | (refine ⟨?_, ?_⟩))))
  have re : BankR g7 (playD xs ss).bank e := Own.bankR (L := []) (H.to (by repeat' (first | exact trivial | exact rfl | omega | (refine ⟨?_, ?_⟩))))
  refine (sameBanks_R rd re).mono ?_
  rintro v g8 ⟨rfl, f⟩
  have H := H.ext f
  refine ⟨_, rfl, ?_⟩
  (refine br (fun hc => ?_) (fun hc => ?_) <;> (try simp only [decide_eq_true_eq, decide_eq_false_iff_not, beq_iff_eq, bne_iff_ne, ne_eq, Bool.not_eq_true', Bool.not_eq_false', Bool.not_eq_true, Bool.not_eq_false, beq_eq_false_iff_ne, bne_eq_false_iff_eq, Int.not_lt, Int.not_le, gt_iff_lt, ge_iff_le, Decidable.not_not] at hc))
  · cases hc
  (refine br (fun hc => ?_) (fun hc => ?_) <;> (try simp only [decide_eq_true_eq, decide_eq_false_iff_not, beq_iff_eq, bne_iff_ne, ne_eq, Bool.not_eq_true', Bool.not_eq_false', Bool.not_eq_true, Bool.not_eq_false, beq_eq_false_iff_ne, bne_eq_false_iff_eq, Int.not_lt, Int.not_le, gt_iff_lt, ge_iff_le, Decidable.not_not] at hc))
  rotate_left
  · exact ⟨rfl, H.oldE⟩
  have v := Inv.play hc
  have hco := playD_len hc
  have hT := v.T0
  rw [← sumN_list] at v hT
  have H : Own g8 (rowA g1.size ty_impl_Bank d.cells :: bankL (playD xs ss).bank d [slA kI xs a1 n1 c1, oldA h]) := H.to (by repeat' (first | exact trivial | exact rfl | omega | (refine ⟨?_, ?_⟩)))
  generalize (playD xs ss).bank = y at v H
  have hcoins := coinsOk_len hco
  have hmem : ∀ m ∈ xs, 0 ≤ m ∧ m ≤ 50 := by
    unfold coinsOk at hco
    simp only [Bool.and_eq_true, List.all_eq_true] at hco
    exact fun m hm => inR_iff.1 (hco.2 m hm)
  obtain ⟨rfl, -⟩ := ln
  refine ⟨UpK xs.length fun i k g => g = g8 ∧ k = lsum (xs.take i), UpKM xs.length, UpK.start ⟨rfl, rfl⟩, ?_⟩
  intro g k z hI
  obtain ⟨i, hi, rfl, rfl, rfl⟩ := hI.elim
  (refine br (fun hc => ?_) (fun hc => ?_) <;> (try simp only [decide_eq_true_eq, decide_eq_false_iff_not, beq_iff_eq, bne_iff_ne, ne_eq, Bool.not_eq_true', Bool.not_eq_false', Bool.not_eq_true, Bool.not_eq_false, beq_eq_false_iff_ne, bne_eq_false_iff_eq, Int.not_lt, Int.not_le, gt_iff_lt, ge_iff_le, Decidable.not_not] at hc))
  · have hi : i < xs.length := by omega
    have b1 := lsum_part (fun m hm => by have := hmem m hm; omega) i (by omega)
    have b2 := lsum_part (fun m hm => by have := hmem m hm; omega) (i + 1) (by omega)
    have e1 := lsum_snoc hi
    have sx := H.rd a1 xs.length c1
    (first | refine SlR.nxI (by assumption) (by first | omega | assumption) fun b_ o_ e_ r_ => ?_ | refine SlR.nxB (by assumption) (by first | omega | assumption) fun b_ o_ e_ => ?_ | refine SlR.nxS (by assumption) (by first | omega | assumption) fun b_ o_ a_ n_ c_ e_ s_ l_ => ?_ | refine SlR.ixI (by assumption) (by first | omega | assumption) (by first | omega | assumption) fun b_ o_ e_ r_ => ?_ | refine SlR.ixB (by assumption) (by first | omega | assumption) (by first | omega | assumption) fun b_ o_ e_ => ?_ | refine SlR.ixS (by assumption) (by first | omega | assumption) (by first | omega | assumption) fun b_ o_ a_ n_ c_ e_ s_ => ?_ | fail)
    (first | refine ldI (by first | assumption | exact H.ld (by rfl) | exact H.ldO (by assumption)) ?_ | refine ldS (by first | assumption | exact H.ld (by rfl) | exact H.ldO (by assumption)) ?_ | refine ldB (by first | assumption | exact H.ld (by rfl) | exact H.ldO (by assumption)) ?_ | refine ldT (by first | assumption | exact H.ld (by rfl) | exact H.ldO (by assumption)) ?_ | refine re1 (by first | assumption | exact H.ld (by rfl) | exact H.ldO (by assumption)) ?_ | fail)
    refine UpK.next (by omega) hi ⟨rfl, ?_⟩
    rw [wrap64_of (by omega) (by omega)]; omega
  rw [List.take_of_length_le (by omega)]
  generalize hTT : lsum xs = T at v hT
  generalize hnn : xs.length = n' at *
  repeat' (first | (first | refine ldI (by first | assumption | exact H.ld (by rfl) | exact H.ldO (by assumption)) ?_ | refine ldS (by first | assumption | exact H.ld (by rfl) | exact H.ldO (by assumption)) ?_ | refine ldB (by first | assumption | exact H.ld (by rfl) | exact H.ldO (by assumption)) ?_ | refine ldT (by first | assumption | exact H.ld (by rfl) | exact H.ldO (by assumption)) ?_ | refine re1 (by first | assumption | exact H.ld (by rfl) | exact H.ldO (by assumption)) ?_ | fail) | fail)
  have rd := Own.bankR H.drop
  refine (TotalIn_ok v rd).mono ?_
  rintro v_ g9 ⟨rfl, f⟩
  have H := H.ext f
  refine ⟨_, _, rfl, ?_⟩
  repeat' (first | (first | refine ldI (by first | assumption | exact H.ld (by rfl) | exact H.ldO (by assumption)) ?_ | refine ldS (by first | assumption | exact H.ld (by rfl) | exact H.ldO (by assumption)) ?_ | refine ldB (by first | assumption | exact H.ld (by rfl) | exact H.ldO (by assumption)) ?_ | refine ldT (by first | assumption | exact H.ld (by rfl) | exact H.ldO (by assumption)) ?_ | refine re1 (by first | assumption | exact H.ld (by rfl) | exact H.ldO (by assumption)) ?_ | fail) | fail)
  have rd := Own.bankR H.drop
  refine (GoodBank_ok v rd).mono ?_
  rintro v_ g10 ⟨rfl, f⟩
  have H := H.ext f
  refine ⟨_, rfl, ?_⟩
  (refine br (fun hc => ?_) (fun hc => ?_) <;> (try simp only [decide_eq_true_eq, decide_eq_false_iff_not, beq_iff_eq, bne_iff_ne, ne_eq, Bool.not_eq_true', Bool.not_eq_false', Bool.not_eq_true, Bool.not_eq_false, beq_eq_false_iff_ne, bne_eq_false_iff_eq, Int.not_lt, Int.not_le, gt_iff_lt, ge_iff_le, Decidable.not_not] at hc))
  rotate_left
  · cases hc
  (refine br (fun hc => ?_) (fun hc => ?_) <;> (try simp only [decide_eq_true_eq, decide_eq_false_iff_not, beq_iff_eq, bne_iff_ne, ne_eq, Bool.not_eq_true', Bool.not_eq_false', Bool.not_eq_true, Bool.not_eq_false, beq_eq_false_iff_ne, bne_eq_false_iff_eq, Int.not_lt, Int.not_le, gt_iff_lt, ge_iff_le, Decidable.not_not] at hc))
  rotate_left
  · cases hc
  (refine br (fun hc => ?_) (fun hc => ?_) <;> (try simp only [decide_eq_true_eq, decide_eq_false_iff_not, beq_iff_eq, bne_iff_ne, ne_eq, Bool.not_eq_true', Bool.not_eq_false', Bool.not_eq_true, Bool.not_eq_false, beq_eq_false_iff_ne, bne_eq_false_iff_eq, Int.not_lt, Int.not_le, gt_iff_lt, ge_iff_le, Decidable.not_not] at hc))
  · exact absurd trivial hc
  have lk := rd.s2.len
  rw [v.wf40.kept] at lk
  have fin : ∀ (K : List Value → Heap → Prop), (∀ (g : Heap) (y : BankD) (d : BankH), Inv n' T y → y.begun n' → Own g (rowA g1.size ty_impl_Bank d.cells :: bankL y d [oldA h]) → K [] g) →
      ∀ (g : Heap) (y : BankD) (d : BankH), Inv n' T y → y.begun n' → Own g (rowA g1.size ty_impl_Bank d.cells :: bankL y d [oldA h]) → K [] g := fun K hK => hK
  (first | refine ldI (by first | assumption | exact H.ld (by rfl) | exact H.ldO (by assumption)) ?_ | refine ldS (by first | assumption | exact H.ld (by rfl) | exact H.ldO (by assumption)) ?_ | refine ldB (by first | assumption | exact H.ld (by rfl) | exact H.ldO (by assumption)) ?_ | refine ldT (by first | assumption | exact H.ld (by rfl) | exact H.ldO (by assumption)) ?_ | refine re1 (by first | assumption | exact H.ld (by rfl) | exact H.ldO (by assumption)) ?_ | fail)
  refine ⟨fun vs g => ∃ (t : Bool) (i : Nat), i ≤ n' ∧ vs = [.bool t, .int .i64 i] ∧ g = g10 ∧ (t = true ↔ ∃ k, k < i ∧ y.kp k ≥ 0), UpKM n', ⟨false, 0, by omega, rfl, rfl, by simp⟩, ?_⟩
  rintro g t z ⟨t, i, hi, hv, rfl, ht⟩
  simp at hv
  obtain ⟨rfl, rfl⟩ := hv
  have sk := rd.s2.ext f
  (refine br (fun hc => ?_) (fun hc => ?_) <;> (try simp only [decide_eq_true_eq, decide_eq_false_iff_not, beq_iff_eq, bne_iff_ne, ne_eq, Bool.not_eq_true', Bool.not_eq_false', Bool.not_eq_true, Bool.not_eq_false, beq_eq_false_iff_ne, bne_eq_false_iff_eq, Int.not_lt, Int.not_le, gt_iff_lt, ge_iff_le, Decidable.not_not] at hc))
  · have hi : i < n' := by omega
    (first | refine SlR.nxI (by assumption) (by first | omega | assumption) fun b_ o_ e_ r_ => ?_ | refine SlR.nxB (by assumption) (by first | omega | assumption) fun b_ o_ e_ => ?_ | refine SlR.nxS (by assumption) (by first | omega | assumption) fun b_ o_ a_ n_ c_ e_ s_ l_ => ?_ | refine SlR.ixI (by assumption) (by first | omega | assumption) (by first | omega | assumption) fun b_ o_ e_ r_ => ?_ | refine SlR.ixB (by assumption) (by first | omega | assumption) (by first | omega | assumption) fun b_ o_ e_ => ?_ | refine SlR.ixS (by assumption) (by first | omega | assumption) (by first | omega | assumption) fun b_ o_ a_ n_ c_ e_ s_ => ?_ | fail)
    (first | refine ldI (by first | assumption | exact H.ld (by rfl) | exact H.ldO (by assumption)) ?_ | refine ldS (by first | assumption | exact H.ld (by rfl) | exact H.ldO (by assumption)) ?_ | refine ldB (by first | assumption | exact H.ld (by rfl) | exact H.ldO (by assumption)) ?_ | refine ldT (by first | assumption | exact H.ld (by rfl) | exact H.ldO (by assumption)) ?_ | refine re1 (by first | assumption | exact H.ld (by rfl) | exact H.ldO (by assumption)) ?_ | fail)
    have hm : ∀ b : Bool, UpKM n' [.bool b, .int .i64 (IntKind.i64.wrap ((i : Int) + 1))] g < UpKM n' [.bool t, .int .i64 (i : Int)] g := by
      intro b
      rw [wrap_succ (by omega)]
      simp [UpKM, ivOf]; omega
    (refine br (fun hc => ?_) (fun hc => ?_) <;> (try simp only [decide_eq_true_eq, decide_eq_false_iff_not, beq_iff_eq, bne_iff_ne, ne_eq, Bool.not_eq_true', Bool.not_eq_false', Bool.not_eq_true, Bool.not_eq_false, beq_eq_false_iff_ne, bne_eq_false_iff_eq, Int.not_lt, Int.not_le, gt_iff_lt, ge_iff_le, Decidable.not_not] at hc))
    · refine ⟨⟨_, i + 1, by omega, by rw [wrap_succ (by omega)], rfl, ?_⟩, hm _⟩
      subst hc
      simp only [Bool.false_eq_true, false_iff, not_exists, not_and] at ht
      simp only [decide_eq_true_eq]
      constructor
      · intro hp; exact ⟨i, by omega, hp⟩
      · rintro ⟨k, hk, hp⟩
        by_cases hki : k = i
        · subst hki; exact hp
        · exact absurd hp (ht k (by omega))
    · refine ⟨⟨_, i + 1, by omega, by rw [wrap_succ (by omega)], rfl, ?_⟩, hm _⟩
      subst hc
      simp only [true_iff] at ht ⊢
      obtain ⟨k, hk, hp⟩ := ht
      exact ⟨k, by omega, hp⟩
  have hin : i = n' := by omega
  subst hin
  intro K67 hK67
  have fin : ∀ (g : Heap) (y : BankD) (d : BankH), Inv i T y → y.begun i → Own g (rowA g1.size ty_impl_Bank d.cells :: bankL y d [oldA h]) → K67 [] g := by
    intro g y d v hb H
    apply hK67
    refine ⟨fun vs g => ∃ m, Drain h g1.size i T vs g m, fun vs g => lst (Drain h g1.size i T vs g), ⟨_, true, y, d, rfl, v, hb, by simp, H, rfl⟩, ?_⟩
    intro g t hI
    obtain ⟨m, hm⟩ := hI
    obtain ⟨hS, -⟩ := lst_spec hm
    obtain ⟨t', y, d, hv, v, hb, he, H, hm0⟩ := hS
    simp at hv
    subst hv
    have hn5 := v.wf40.le
    (refine br (fun hc => ?_) (fun hc => ?_) <;> (try simp only [decide_eq_true_eq, decide_eq_false_iff_not, beq_iff_eq, bne_iff_ne, ne_eq, Bool.not_eq_true', Bool.not_eq_false', Bool.not_eq_true, Bool.not_eq_false, beq_eq_false_iff_ne, bne_eq_false_iff_eq, Int.not_lt, Int.not_le, gt_iff_lt, ge_iff_le, Decidable.not_not] at hc))
    · subst hc
      refine ⟨fun vs g => ∃ (t : Bool) (f : Nat) (y' : BankD) (d' : BankH), f ≤ i ∧ vs = [.bool t, .int .i64 f] ∧ Inv i T y' ∧ y'.begun i ∧ Own g (rowA g1.size ty_impl_Bank d'.cells :: bankL y' d' [oldA h]) ∧ (t = true → y'.todo i + 1 ≤ y.todo i) ∧
        (t = false → y' = y ∧ ∀ a b, a < f → b < i → y.w i a b = []), UpKM i, ⟨false, 0, y, d, by omega, rfl, v, hb, H, by simp, fun _ => ⟨rfl, fun a b ha => by omega⟩⟩, ?_⟩
      rintro g t z ⟨t, f, y1, d1, hf, hv, v1, hb1, H, hT1, hF1⟩
      simp at hv
      obtain ⟨rfl, rfl⟩ := hv
      (refine br (fun hc => ?_) (fun hc => ?_) <;> (try simp only [decide_eq_true_eq, decide_eq_false_iff_not, beq_iff_eq, bne_iff_ne, ne_eq, Bool.not_eq_true', Bool.not_eq_false', Bool.not_eq_true, Bool.not_eq_false, beq_eq_false_iff_ne, bne_eq_false_iff_eq, Int.not_lt, Int.not_le, gt_iff_lt, ge_iff_le, Decidable.not_not] at hc))
      · have hf : f < i := by omega
        refine ⟨fun vs g => ∃ (t : Bool) (j : Nat) (y' : BankD) (d' : BankH), j ≤ i ∧ vs = [.bool t, .int .i64 j] ∧ Inv i T y' ∧ y'.begun i ∧ Own g (rowA g1.size ty_impl_Bank d'.cells :: bankL y' d' [oldA h]) ∧ (t = true → y'.todo i + 1 ≤ y.todo i) ∧
          (t = false → y' = y ∧ ∀ a b, (a < f ∨ a = f ∧ b < j) → b < i → y.w i a b = []), UpKM i, ⟨t, 0, y1, d1, by omega, rfl, v1, hb1, H, hT1, fun h => ⟨(hF1 h).1, fun a b ha => (hF1 h).2 a b (by omega)⟩⟩, ?_⟩
        rintro g t z ⟨t, j, y1, d1, hj, hv, v1, hb1, H, hT1, hF1⟩
        simp at hv
        obtain ⟨rfl, rfl⟩ := hv
        (refine br (fun hc => ?_) (fun hc => ?_) <;> (try simp only [decide_eq_true_eq, decide_eq_false_iff_not, beq_iff_eq, bne_iff_ne, ne_eq, Bool.not_eq_true', Bool.not_eq_false', Bool.not_eq_true, Bool.not_eq_false, beq_eq_false_iff_ne, bne_eq_false_iff_eq, Int.not_lt, Int.not_le, gt_iff_lt, ge_iff_le, Decidable.not_not] at hc))
        · have hj : j < i := by omega
          have hmm : ∀ (b : Bool) (g : Heap), UpKM i [.bool b, .int .i64 (IntKind.i64.wrap ((j : Int) + 1))] g < UpKM i [.bool t, .int .i64 (j : Int)] g := by
            intro b g
            rw [wrap_succ (by omega)]
            simp [UpKM, ivOf]; omega
          repeat' (first | (first | refine ldI (by first | assumption | exact H.ld (by rfl) | exact H.ldO (by assumption)) ?_ | refine ldS (by first | assumption | exact H.ld (by rfl) | exact H.ldO (by assumption)) ?_ | refine ldB (by first | assumption | exact H.ld (by rfl) | exact H.ldO (by assumption)) ?_ | refine ldT (by first | assumption | exact H.ld (by rfl) | exact H.ldO (by assumption)) ?_ | refine re1 (by first | assumption | exact H.ld (by rfl) | exact H.ldO (by assumption)) ?_ | fail) | fail)
          refine (StepBank_ok (s := ⟨2, f, j, 0⟩) v1 v1.wf40 (by omega) (by unfold StepD.ok inI64; dsimp only; omega) (Own.bankR H.drop)).mono ?_
          rintro v_ g2 ⟨d2, rfl, hsome, hext⟩
          rcases take_step v1 hf hj with ⟨hw, e1⟩ | ⟨item, rest, hw, e1⟩
          · rw [e1]
            have H := H.ext hext
            refine ⟨_, _, _, _, _, _, _, _, _, _, _, _, _, _, _, _, rfl, ?_⟩
            refine H.nw fun g3 H => ?_
            refine H.sts (by simp) fun g4 H => ?_
            (refine br (fun hc => ?_) (fun hc => ?_) <;> (try simp only [decide_eq_true_eq, decide_eq_false_iff_not, beq_iff_eq, bne_iff_ne, ne_eq, Bool.not_eq_true', Bool.not_eq_false', Bool.not_eq_true, Bool.not_eq_false, beq_eq_false_iff_ne, bne_eq_false_iff_eq, Int.not_lt, Int.not_le, gt_iff_lt, ge_iff_le, Decidable.not_not] at hc))
            · cases hc
            · refine ⟨⟨t, j + 1, y1, d1, by omega, by rw [wrap_succ (by omega)], v1, hb1, H.to (by repeat' (first | exact trivial | exact rfl | omega | (refine ⟨?_, ?_⟩))), hT1, fun h => ⟨(hF1 h).1, fun a b ha hbi => ?_⟩⟩, hmm _ _⟩
              obtain ⟨rfl, hw1⟩ := hF1 h
              by_cases hab : a = f ∧ b = j
              · obtain ⟨rfl, rfl⟩ := hab; exact hw
              · exact hw1 a b (by omega) hbi
          · rw [e1]
            have H := H.lift5 (hsome _ e1)
            refine ⟨_, _, _, _, _, _, _, _, _, _, _, _, _, _, _, _, rfl, ?_⟩
            refine H.nw fun g3 H => ?_
            refine H.sts (by simp) fun g4 H => ?_
            (refine br (fun hc => ?_) (fun hc => ?_) <;> (try simp only [decide_eq_true_eq, decide_eq_false_iff_not, beq_iff_eq, bne_iff_ne, ne_eq, Bool.not_eq_true', Bool.not_eq_false', Bool.not_eq_true, Bool.not_eq_false, beq_eq_false_iff_ne, bne_eq_false_iff_eq, Int.not_lt, Int.not_le, gt_iff_lt, ge_iff_le, Decidable.not_not] at hc))
            · repeat' (first | (first | refine ldI (by first | assumption | exact H.ld (by rfl) | exact H.ldO (by assumption)) ?_ | refine ldS (by first | assumption | exact H.ld (by rfl) | exact H.ldO (by assumption)) ?_ | refine ldB (by first | assumption | exact H.ld (by rfl) | exact H.ldO (by assumption)) ?_ | refine ldT (by first | assumption | exact H.ld (by rfl) | exact H.ldO (by assumption)) ?_ | refine re1 (by first | assumption | exact H.ld (by rfl) | exact H.ldO (by assumption)) ?_ | fail) | fail)
              refine H.sts (by simp [BankH.cells]) fun g5 H => ?_
              have hdec := take_dec v1 hf hj e1
              refine ⟨⟨true, j + 1, _, d2, by omega, by rw [wrap_succ (by omega)], v1.step e1, begun_take v1 hb1 hf hj e1, H.to (by repeat' (first | exact trivial | exact rfl | omega | (refine ⟨?_, ?_⟩))), fun _ => ?_, fun h => by cases h⟩, hmm _ _⟩
              cases ht1 : t with
              | true => have := hT1 ht1; omega
              | false =>
                have e2 := congrArg (fun z => BankD.todo i z) (hF1 ht1).1
                omega
            · cases hc
        · have hji : j = i := by omega
          refine ⟨⟨t, f + 1, y1, d1, by omega, by rw [wrap_succ (by omega)], v1, hb1, H, hT1, fun h => ⟨(hF1 h).1, fun a b ha hb => (hF1 h).2 a b (by omega) hb⟩⟩, ?_⟩
          rw [wrap_succ (by omega)]
          simp [UpKM, ivOf]; omega
      · have hfi : f = i := by omega
        have h1 := todo_nonneg i y
        have h2 := todo_nonneg i y1
        refine lst_next (m' := 2 * (y1.todo i).toNat + (if t = true then 1 else 0)) ⟨t, y1, d1, rfl, v1, hb1, fun h => ?_, H, rfl⟩ ?_
        · obtain ⟨rfl, hw⟩ := hF1 h
          exact fun a b ha hb => hw a b (by omega) hb
        · rw [hm0, if_pos rfl]
          cases ht1 : t with
          | true => have := hT1 ht1; simp; omega
          | false => rw [(hF1 ht1).1]; simp
    · obtain ⟨w1, w2, w3⟩ := v.whole hb (he hc)
      have hTk : Taken i y := fun t ht => ⟨w1 t ht, fun f hf hne => w2 f t hf ht hne⟩
      repeat' (first | (first | refine ldI (by first | assumption | exact H.ld (by rfl) | exact H.ldO (by assumption)) ?_ | refine ldS (by first | assumption | exact H.ld (by rfl) | exact H.ldO (by assumption)) ?_ | refine ldB (by first | assumption | exact H.ld (by rfl) | exact H.ldO (by assumption)) ?_ | refine ldT (by first | assumption | exact H.ld (by rfl) | exact H.ldO (by assumption)) ?_ | refine re1 (by first | assumption | exact H.ld (by rfl) | exact H.ldO (by assumption)) ?_ | fail) | fail)
      refine (IsTaken_ok v hTk (Own.bankR H.drop)).mono ?_
      rintro v_ g2 ⟨rfl, f⟩
      have H := H.ext f
      refine ⟨_, _, rfl, ?_⟩
      repeat' (first | (first | refine ldI (by first | assumption | exact H.ld (by rfl) | exact H.ldO (by assumption)) ?_ | refine ldS (by first | assumption | exact H.ld (by rfl) | exact H.ldO (by assumption)) ?_ | refine ldB (by first | assumption | exact H.ld (by rfl) | exact H.ldO (by assumption)) ?_ | refine ldT (by first | assumption | exact H.ld (by rfl) | exact H.ldO (by assumption)) ?_ | refine re1 (by first | assumption | exact H.ld (by rfl) | exact H.ldO (by assumption)) ?_ | fail) | fail)
      refine (PictureOf_ok v hTk (Own.bankR H.drop)).mono ?_
      rintro v_ g3 ⟨rfl, f⟩
      have H := H.ext f
      refine ⟨_, _, rfl, ?_⟩
      (refine br (fun hc => ?_) (fun hc => ?_) <;> (try simp only [decide_eq_true_eq, decide_eq_false_iff_not, beq_iff_eq, bne_iff_ne, ne_eq, Bool.not_eq_true', Bool.not_eq_false', Bool.not_eq_true, Bool.not_eq_false, beq_eq_false_iff_ne, bne_eq_false_iff_eq, Int.not_lt, Int.not_le, gt_iff_lt, ge_iff_le, Decidable.not_not] at hc))
      rotate_left
      · cases hc
      (refine br (fun hc => ?_) (fun hc => ?_) <;> (try simp only [decide_eq_true_eq, decide_eq_false_iff_not, beq_iff_eq, bne_iff_ne, ne_eq, Bool.not_eq_true', Bool.not_eq_false', Bool.not_eq_true, Bool.not_eq_false, beq_eq_false_iff_ne, bne_eq_false_iff_eq, Int.not_lt, Int.not_le, gt_iff_lt, ge_iff_le, Decidable.not_not] at hc))
      rotate_left
      · cases hc
      (refine br (fun hc => ?_) (fun hc => ?_) <;> (try simp only [decide_eq_true_eq, decide_eq_false_iff_not, beq_iff_eq, bne_iff_ne, ne_eq, Bool.not_eq_true', Bool.not_eq_false', Bool.not_eq_true, Bool.not_eq_false, beq_eq_false_iff_ne, bne_eq_false_iff_eq, Int.not_lt, Int.not_le, gt_iff_lt, ge_iff_le, Decidable.not_not] at hc))
      rotate_left
      · cases hc
      rw [w3]
      exact ⟨by simp, H.oldE⟩
  have hp := v.wf40.pos
  have hn5 := v.wf40.le
  (refine br (fun hc => ?_) (fun hc => ?_) <;> (try simp only [decide_eq_true_eq, decide_eq_false_iff_not, beq_iff_eq, bne_iff_ne, ne_eq, Bool.not_eq_true', Bool.not_eq_false', Bool.not_eq_true, Bool.not_eq_false, beq_eq_false_iff_ne, bne_eq_false_iff_eq, Int.not_lt, Int.not_le, gt_iff_lt, ge_iff_le, Decidable.not_not] at hc))
  · subst hc
    simp only [Bool.false_eq_true, false_iff, not_exists, not_and] at ht
    have hk0 : y.kept.getD 0 0 < 0 := by have := ht 0 (by omega); unfold BankD.kp at this; omega
    have e1 := begin_yes (n := i) (f := 0) (x := y) (by omega) (by omega) hk0
    repeat' (first | (first | refine ldI (by first | assumption | exact H.ld (by rfl) | exact H.ldO (by assumption)) ?_ | refine ldS (by first | assumption | exact H.ld (by rfl) | exact H.ldO (by assumption)) ?_ | refine ldB (by first | assumption | exact H.ld (by rfl) | exact H.ldO (by assumption)) ?_ | refine ldT (by first | assumption | exact H.ld (by rfl) | exact H.ldO (by assumption)) ?_ | refine re1 (by first | assumption | exact H.ld (by rfl) | exact H.ldO (by assumption)) ?_ | fail) | fail)
    refine (StepBank_ok (s := ⟨3, 0, 0, 0⟩) v v.wf40 (by omega) (by unfold StepD.ok inI64; dsimp only; omega) (Own.bankR H.drop)).mono ?_
    rintro v_ g2 ⟨d2, rfl, hsome, hext⟩
    have H := H.lift5 (hsome _ e1)
    have e2 : (stepD i y ⟨3, 0, 0, 0⟩).isSome = true := by rw [show stepD i y ⟨3, 0, 0, 0⟩ = _ from e1]; rfl
    rw [e2]
    refine ⟨_, _, _, _, _, _, _, _, _, _, _, _, _, _, _, _, rfl, ?_⟩
    refine H.nw fun g3 H => ?_
    refine H.sts (by simp) fun g4 H => ?_
    (refine br (fun hc => ?_) (fun hc => ?_) <;> (try simp only [decide_eq_true_eq, decide_eq_false_iff_not, beq_iff_eq, bne_iff_ne, ne_eq, Bool.not_eq_true', Bool.not_eq_false', Bool.not_eq_true, Bool.not_eq_false, beq_eq_false_iff_ne, bne_eq_false_iff_eq, Int.not_lt, Int.not_le, gt_iff_lt, ge_iff_le, Decidable.not_not] at hc))
    · cases hc
    repeat' (first | (first | refine ldI (by first | assumption | exact H.ld (by rfl) | exact H.ldO (by assumption)) ?_ | refine ldS (by first | assumption | exact H.ld (by rfl) | exact H.ldO (by assumption)) ?_ | refine ldB (by first | assumption | exact H.ld (by rfl) | exact H.ldO (by assumption)) ?_ | refine ldT (by first | assumption | exact H.ld (by rfl) | exact H.ldO (by assumption)) ?_ | refine re1 (by first | assumption | exact H.ld (by rfl) | exact H.ldO (by assumption)) ?_ | fail) | fail)
    refine H.sts (by simp [BankH.cells]) fun g5 H => ?_
    refine fin _ _ d2 (v.step e1) ⟨0, by omega, ?_⟩ (H.to (by repeat' (first | exact trivial | exact rfl | omega | (refine ⟨?_, ?_⟩))))
    unfold recordD BankD.kp
    dsimp only
    rw [c_set v.wf40.kept (by omega), if_pos rfl]
    exact v.c0 0 (by omega)
  · subst hc
    obtain ⟨k, hk, hp⟩ := ht.1 rfl
    exact fin _ _ d v ⟨k, hk, hp⟩ (H.to (by repeat' (first | exact trivial | exact rfl | omega | (refine ⟨?_, ?_⟩))))
end
end Go.Proofs.Ytjmhahjmbmiepaa.D
