/- Contracts: texts of marks; samples, rows, heads compared. -/
import Derived.Test.YtjmhahjmbmiepaaHdI
import Derived.Test.YtjmhahjmbmiepaaMg
namespace Go.Proofs.Ytjmhahjmbmiepaa.D
open Go
set_option linter.unusedVariables false
set_option linter.unusedSimpArgs false

def dgF : Nat → Nat → ByteArray → ByteArray
  | 0, _, acc => acc
  | f + 1, j, acc => if j = 0 then acc else dgF f (j / 10) ((⟨⟨[UInt8.ofNat (48 + j % 10)]⟩⟩ : ByteArray) ++ acc)
def mtext (k : Int) : ByteArray := if k ≤ 0 then (⟨⟨[109, 48]⟩⟩ : ByteArray) else (⟨⟨[109]⟩⟩ : ByteArray) ++ dgF k.toNat k.toNat (⟨⟨[]⟩⟩ : ByteArray)
theorem dgF_zero (f : Nat) (acc : ByteArray) : dgF f 0 acc = acc := by cases f <;> simp [dgF]
section
variable {h : Heap} {L : List Asn}
theorem size1 (b : UInt8) (s : ByteArray) : ((⟨⟨[b]⟩⟩ : ByteArray) ++ s).size = 1 + s.size := by rw [ByteArray.size_append]; rfl
theorem markText_ok {k : Int} (hk : k < 4611686018427387904) : CallsH PP fn_laws_markText [.int .i64 k] h fun v h' => v = .string (mtext k) ∧ Ext h h' := by
  refine calls_laws_markText _ ?_
  unfold M_laws_markText
  (refine br (fun hc => ?_) (fun hc => ?_) <;> (try simp only [decide_eq_true_eq, decide_eq_false_iff_not, beq_iff_eq, bne_iff_ne, ne_eq, Bool.not_eq_true', Bool.not_eq_false', Bool.not_eq_true, Bool.not_eq_false, beq_eq_false_iff_ne, bne_eq_false_iff_eq, Int.not_lt, Int.not_le, gt_iff_lt, ge_iff_le, Decidable.not_not] at hc))
  · exact ⟨by unfold mtext; rw [if_pos hc], Frm.refl _ _⟩
  · refine ⟨fun vs g => ∃ (f j : Nat) (acc : ByteArray), vs = [.int .i64 (j : Int), .string acc] ∧ j ≤ f ∧ dgF f j acc = dgF k.toNat k.toNat (⟨⟨[]⟩⟩ : ByteArray) ∧ acc.size + j ≤ k.toNat ∧ Own g [oldA h],
      fun vs _ => (ivOf vs 0).toNat, ⟨k.toNat, k.toNat, _, by rw [Int.toNat_of_nonneg (by omega)], Nat.le_refl _, rfl, by simp [ByteArray.size], Own.start h⟩, ?_⟩
    rintro g x s ⟨f, j, acc, hv, hjf, hd, hsz, H⟩
    simp at hv
    obtain ⟨rfl, rfl⟩ := hv
    (refine br (fun hc => ?_) (fun hc => ?_) <;> (try simp only [decide_eq_true_eq, decide_eq_false_iff_not, beq_iff_eq, bne_iff_ne, ne_eq, Bool.not_eq_true', Bool.not_eq_false', Bool.not_eq_true, Bool.not_eq_false, beq_eq_false_iff_ne, bne_eq_false_iff_eq, Int.not_lt, Int.not_le, gt_iff_lt, ge_iff_le, Decidable.not_not] at hc))
    · obtain ⟨f, rfl⟩ : ∃ f', f = f' + 1 := ⟨f - 1, by omega⟩
      have hm : Int.tmod (j : Int) 10 = ((j % 10 : Nat) : Int) := by rw [Int.tmod_eq_emod_of_nonneg (by omega)]; omega
      have hq : IntKind.i64.wrap (Int.tdiv (j : Int) 10) = ((j / 10 : Nat) : Int) := by
        rw [Int.tdiv_eq_ediv_of_nonneg (by omega), wrap64_of (by omega) (by omega)]; omega
      have hb : IntKind.u8.wrap (IntKind.i64.wrap (48 + Int.tmod (j : Int) 10)) = ((UInt8.ofNat (48 + j % 10)).toNat : Int) := by
        rw [hm, wrap64_of (by omega) (by omega)]
        have hlt : j % 10 < 10 := Nat.mod_lt _ (by omega)
        have e1 : (UInt8.ofNat (48 + j % 10)).toNat = 48 + j % 10 := by simp; omega
        rw [e1]
        unfold IntKind.wrap
        simp only [IntKind.bits, IntKind.signed]
        simp
        omega
      rw [hq, hb]
      refine ⟨by decide, ?_⟩
      refine H.nw fun g2 H => ?_
      refine ⟨(fun h => by cases h), [UInt8.ofNat (48 + j % 10)], ?_, ?_⟩
      · have := cellsRow (pre := []) (post := []) (o := 0) (m := 1) (by simpa using H.row' g.size) rfl rfl
        exact this
      refine ⟨by rw [show ByteArray.size (⟨⟨[UInt8.ofNat (48 + j % 10)]⟩⟩ : ByteArray) = 1 from rfl]; omega, by decide, ⟨f, j / 10, _, rfl, by omega, ?_, ?_, H.to (by repeat' (first | exact trivial | exact rfl | omega | (refine ⟨?_, ?_⟩)))⟩, by simp [ivOf]; omega⟩
      · rw [← hd]
        conv => rhs; unfold dgF
        rw [if_neg (by omega)]
      · rw [size1]; omega
    · have hj0 : j = 0 := by omega
      subst hj0
      rw [dgF_zero] at hd
      refine ⟨by rw [show ByteArray.size (⟨⟨[109]⟩⟩ : ByteArray) = 1 from rfl]; omega, ?_, H.oldE⟩
      unfold mtext
      rw [if_neg (by omega), ← hd]

/-! ### Equal -/

theorem eqSample_ok (x y : SampleD) : CallsH PP fn_laws_eqSample [.agg ⟨x.cells⟩, .agg ⟨y.cells⟩] h fun v h' => v = .bool (decide (x = y)) ∧ Ext h h' := by
  refine calls_laws_eqSample _ _ _ _ ?_
  unfold M_laws_eqSample
  obtain ⟨x1, x2⟩ := x
  obtain ⟨y1, y2⟩ := y
  have H := Own.start h
  repeat' (first | (first | ((refine (within_ok _ _ _).mono ?_; rintro v_ g_ ⟨rfl, rfl⟩; refine ⟨_, rfl, ?_⟩)) | (first | refine ldI (by first | assumption | exact H.ld (by rfl) | exact H.ldO (by assumption)) ?_ | refine ldS (by first | assumption | exact H.ld (by rfl) | exact H.ldO (by assumption)) ?_ | refine ldB (by first | assumption | exact H.ld (by rfl) | exact H.ldO (by assumption)) ?_ | refine ldT (by first | assumption | exact H.ld (by rfl) | exact H.ldO (by assumption)) ?_ | refine re1 (by first | assumption | exact H.ld (by rfl) | exact H.ldO (by assumption)) ?_ | fail) | (first | refine SlR.nxI (by assumption) (by first | omega | assumption) fun b_ o_ e_ r_ => ?_ | refine SlR.nxB (by assumption) (by first | omega | assumption) fun b_ o_ e_ => ?_ | refine SlR.nxS (by assumption) (by first | omega | assumption) fun b_ o_ a_ n_ c_ e_ s_ l_ => ?_ | refine SlR.ixI (by assumption) (by first | omega | assumption) (by first | omega | assumption) fun b_ o_ e_ r_ => ?_ | refine SlR.ixB (by assumption) (by first | omega | assumption) (by first | omega | assumption) fun b_ o_ e_ => ?_ | refine SlR.ixS (by assumption) (by first | omega | assumption) (by first | omega | assumption) fun b_ o_ a_ n_ c_ e_ s_ => ?_ | fail) | (refine br (fun hc => ?_) (fun hc => ?_) <;> (try simp only [decide_eq_true_eq, decide_eq_false_iff_not, beq_iff_eq, bne_iff_ne, ne_eq, Bool.not_eq_true', Bool.not_eq_false', Bool.not_eq_true, Bool.not_eq_false, beq_eq_false_iff_ne, bne_eq_false_iff_eq, Int.not_lt, Int.not_le, gt_iff_lt, ge_iff_le, Decidable.not_not] at hc)) | (refine H.nw fun g_ H => ?_) | fail) | fail)
  all_goals exact ⟨by simp [*], H.oldE⟩
theorem eqSay_ok (x y : SayD) : CallsH PP fn_laws_eqSay [.agg ⟨x.cells⟩, .agg ⟨y.cells⟩] h fun v h' => v = .bool (decide (x = y)) ∧ Ext h h' := by
  refine calls_laws_eqSay _ _ _ _ _ _ ?_
  unfold M_laws_eqSay
  obtain ⟨x1, x2, x3⟩ := x
  obtain ⟨y1, y2, y3⟩ := y
  simp only [toList_beq]
  have H := Own.start h
  repeat' (first | (first | ((refine (within_ok _ _ _).mono ?_; rintro v_ g_ ⟨rfl, rfl⟩; refine ⟨_, rfl, ?_⟩)) | (first | refine ldI (by first | assumption | exact H.ld (by rfl) | exact H.ldO (by assumption)) ?_ | refine ldS (by first | assumption | exact H.ld (by rfl) | exact H.ldO (by assumption)) ?_ | refine ldB (by first | assumption | exact H.ld (by rfl) | exact H.ldO (by assumption)) ?_ | refine ldT (by first | assumption | exact H.ld (by rfl) | exact H.ldO (by assumption)) ?_ | refine re1 (by first | assumption | exact H.ld (by rfl) | exact H.ldO (by assumption)) ?_ | fail) | (first | refine SlR.nxI (by assumption) (by first | omega | assumption) fun b_ o_ e_ r_ => ?_ | refine SlR.nxB (by assumption) (by first | omega | assumption) fun b_ o_ e_ => ?_ | refine SlR.nxS (by assumption) (by first | omega | assumption) fun b_ o_ a_ n_ c_ e_ s_ l_ => ?_ | refine SlR.ixI (by assumption) (by first | omega | assumption) (by first | omega | assumption) fun b_ o_ e_ r_ => ?_ | refine SlR.ixB (by assumption) (by first | omega | assumption) (by first | omega | assumption) fun b_ o_ e_ => ?_ | refine SlR.ixS (by assumption) (by first | omega | assumption) (by first | omega | assumption) fun b_ o_ a_ n_ c_ e_ s_ => ?_ | fail) | (refine br (fun hc => ?_) (fun hc => ?_) <;> (try simp only [decide_eq_true_eq, decide_eq_false_iff_not, beq_iff_eq, bne_iff_ne, ne_eq, Bool.not_eq_true', Bool.not_eq_false', Bool.not_eq_true, Bool.not_eq_false, beq_eq_false_iff_ne, bne_eq_false_iff_eq, Int.not_lt, Int.not_le, gt_iff_lt, ge_iff_le, Decidable.not_not] at hc)) | (refine H.nw fun g_ H => ?_) | fail) | fail)
  all_goals try simp only [decide_eq_false_iff_not, decide_eq_true_eq, Bool.not_eq_true', Bool.not_eq_false'] at *
  all_goals exact ⟨by simp [*], H.oldE⟩
theorem eqHouseStep_ok (x y : HouseStepD) : CallsH PP fn_laws_eqHouseStep [.agg ⟨x.cells⟩, .agg ⟨y.cells⟩] h fun v h' => v = .bool (decide (x = y)) ∧ Ext h h' := by
  refine calls_laws_eqHouseStep _ _ _ _ _ _ _ _ _ _ ?_
  unfold M_laws_eqHouseStep
  obtain ⟨x1, x2, x3⟩ := x
  obtain ⟨y1, y2, y3⟩ := y
  have H := Own.start h
  repeat' (first | (first | ((refine (within_ok _ _ _).mono ?_; rintro v_ g_ ⟨rfl, rfl⟩; refine ⟨_, rfl, ?_⟩)) | (first | refine ldI (by first | assumption | exact H.ld (by rfl) | exact H.ldO (by assumption)) ?_ | refine ldS (by first | assumption | exact H.ld (by rfl) | exact H.ldO (by assumption)) ?_ | refine ldB (by first | assumption | exact H.ld (by rfl) | exact H.ldO (by assumption)) ?_ | refine ldT (by first | assumption | exact H.ld (by rfl) | exact H.ldO (by assumption)) ?_ | refine re1 (by first | assumption | exact H.ld (by rfl) | exact H.ldO (by assumption)) ?_ | fail) | (first | refine SlR.nxI (by assumption) (by first | omega | assumption) fun b_ o_ e_ r_ => ?_ | refine SlR.nxB (by assumption) (by first | omega | assumption) fun b_ o_ e_ => ?_ | refine SlR.nxS (by assumption) (by first | omega | assumption) fun b_ o_ a_ n_ c_ e_ s_ l_ => ?_ | refine SlR.ixI (by assumption) (by first | omega | assumption) (by first | omega | assumption) fun b_ o_ e_ r_ => ?_ | refine SlR.ixB (by assumption) (by first | omega | assumption) (by first | omega | assumption) fun b_ o_ e_ => ?_ | refine SlR.ixS (by assumption) (by first | omega | assumption) (by first | omega | assumption) fun b_ o_ a_ n_ c_ e_ s_ => ?_ | fail) | (refine br (fun hc => ?_) (fun hc => ?_) <;> (try simp only [decide_eq_true_eq, decide_eq_false_iff_not, beq_iff_eq, bne_iff_ne, ne_eq, Bool.not_eq_true', Bool.not_eq_false', Bool.not_eq_true, Bool.not_eq_false, beq_eq_false_iff_ne, bne_eq_false_iff_eq, Int.not_lt, Int.not_le, gt_iff_lt, ge_iff_le, Decidable.not_not] at hc)) | (refine H.nw fun g_ H => ?_) | fail) | (refine (eqSay_ok x3 y3).mono ?_; rintro v_ g_ ⟨rfl, f⟩; have H := H.ext f; refine ⟨_, rfl, ?_⟩) | fail)
  all_goals exact ⟨by simp [*], H.oldE⟩
theorem take_eq_snoc {α : Type} {xs ys : List α} {i : Nat} (d : α) (h : xs.take i = ys.take i) (hx : i < xs.length) (hy : i < ys.length) (he : xs.getD i d = ys.getD i d) : xs.take (i + 1) = ys.take (i + 1) := by
  rw [← takeSnoc d hx, ← takeSnoc d hy, h, he]
theorem eqSampleS_ok {xs ys : List SampleD} {a a' : Option Addr} {n c n' c' : Nat} (r : SlR kSm h xs a n c) (r' : SlR kSm h ys a' n' c') :
    CallsH PP fn_laws_eqSampleS [.slice a n c, .slice a' n' c'] h fun v h' => v = .bool (decide (xs = ys)) ∧ Ext h h' := by
  refine calls_laws_eqSampleS _ _ _ _ _ _ ?_
  unfold M_laws_eqSampleS
  have l := r.len
  have l' := r'.len
  (refine br (fun hc => ?_) (fun hc => ?_) <;> (try simp only [decide_eq_true_eq, decide_eq_false_iff_not, beq_iff_eq, bne_iff_ne, ne_eq, Bool.not_eq_true', Bool.not_eq_false', Bool.not_eq_true, Bool.not_eq_false, beq_eq_false_iff_ne, bne_eq_false_iff_eq, Int.not_lt, Int.not_le, gt_iff_lt, ge_iff_le, Decidable.not_not] at hc))
  · refine ⟨?_, Frm.refl _ _⟩
    have : xs ≠ ys := by rintro rfl; omega
    simp [this]
  · refine ⟨UpI n fun i g => Own g [oldA h] ∧ xs.take i = ys.take i, UpM n, UpI.start ⟨Own.start h, rfl⟩, ?_⟩
    intro g y hI
    obtain ⟨i, hi, rfl, H, hp⟩ := hI.elim
    (refine br (fun hc => ?_) (fun hc => ?_) <;> (try simp only [decide_eq_true_eq, decide_eq_false_iff_not, beq_iff_eq, bne_iff_ne, ne_eq, Bool.not_eq_true', Bool.not_eq_false', Bool.not_eq_true, Bool.not_eq_false, beq_eq_false_iff_ne, bne_eq_false_iff_eq, Int.not_lt, Int.not_le, gt_iff_lt, ge_iff_le, Decidable.not_not] at hc))
    · have hi : i < n := by omega
      refine r.nxSample hi fun b o f1 f2 ok => ?_
      (first | refine ldI (by first | assumption | exact H.ld (by rfl) | exact H.ldO (by assumption)) ?_ | refine ldS (by first | assumption | exact H.ld (by rfl) | exact H.ldO (by assumption)) ?_ | refine ldB (by first | assumption | exact H.ld (by rfl) | exact H.ldO (by assumption)) ?_ | refine ldT (by first | assumption | exact H.ld (by rfl) | exact H.ldO (by assumption)) ?_ | refine re1 (by first | assumption | exact H.ld (by rfl) | exact H.ldO (by assumption)) ?_ | fail)
      (first | refine ldI (by first | assumption | exact H.ld (by rfl) | exact H.ldO (by assumption)) ?_ | refine ldS (by first | assumption | exact H.ld (by rfl) | exact H.ldO (by assumption)) ?_ | refine ldB (by first | assumption | exact H.ld (by rfl) | exact H.ldO (by assumption)) ?_ | refine ldT (by first | assumption | exact H.ld (by rfl) | exact H.ldO (by assumption)) ?_ | refine re1 (by first | assumption | exact H.ld (by rfl) | exact H.ldO (by assumption)) ?_ | fail)
      refine r'.nxSample (i := i) (by omega) fun b2 o2 g1 g2 ok2 => ?_
      (first | refine ldI (by first | assumption | exact H.ld (by rfl) | exact H.ldO (by assumption)) ?_ | refine ldS (by first | assumption | exact H.ld (by rfl) | exact H.ldO (by assumption)) ?_ | refine ldB (by first | assumption | exact H.ld (by rfl) | exact H.ldO (by assumption)) ?_ | refine ldT (by first | assumption | exact H.ld (by rfl) | exact H.ldO (by assumption)) ?_ | refine re1 (by first | assumption | exact H.ld (by rfl) | exact H.ldO (by assumption)) ?_ | fail)
      (first | refine ldI (by first | assumption | exact H.ld (by rfl) | exact H.ldO (by assumption)) ?_ | refine ldS (by first | assumption | exact H.ld (by rfl) | exact H.ldO (by assumption)) ?_ | refine ldB (by first | assumption | exact H.ld (by rfl) | exact H.ldO (by assumption)) ?_ | refine ldT (by first | assumption | exact H.ld (by rfl) | exact H.ldO (by assumption)) ?_ | refine re1 (by first | assumption | exact H.ld (by rfl) | exact H.ldO (by assumption)) ?_ | fail)
      refine (eqSample_ok (xs.getD i default) (ys.getD i default)).mono ?_
      rintro v g3 ⟨rfl, f⟩
      have H := H.ext f
      refine ⟨_, rfl, ?_⟩
      (refine br (fun hc => ?_) (fun hc => ?_) <;> (try simp only [decide_eq_true_eq, decide_eq_false_iff_not, beq_iff_eq, bne_iff_ne, ne_eq, Bool.not_eq_true', Bool.not_eq_false', Bool.not_eq_true, Bool.not_eq_false, beq_eq_false_iff_ne, bne_eq_false_iff_eq, Int.not_lt, Int.not_le, gt_iff_lt, ge_iff_le, Decidable.not_not] at hc))
      · have hc : ¬ xs.getD i default = ys.getD i default := by simpa using hc
        refine ⟨?_, H.oldE⟩
        have : xs ≠ ys := by rintro rfl; exact hc rfl
        simp [this]
      · have hc : xs.getD i default = ys.getD i default := by simpa using hc
        exact UpI.next (by omega) hi ⟨H, take_eq_snoc default hp (by omega) (by omega) hc⟩
    · rw [List.take_of_length_le (by omega), List.take_of_length_le (by omega)] at hp
      exact ⟨by simp [hp], H.oldE⟩
theorem eqHouseStepS_ok {xs ys : List HouseStepD} {a a' : Option Addr} {n c n' c' : Nat} (r : SlR kHS h xs a n c) (r' : SlR kHS h ys a' n' c') :
    CallsH PP fn_laws_eqHouseStepS [.slice a n c, .slice a' n' c'] h fun v h' => v = .bool (decide (xs = ys)) ∧ Ext h h' := by
  refine calls_laws_eqHouseStepS _ _ _ _ _ _ ?_
  unfold M_laws_eqHouseStepS
  have l := r.len
  have l' := r'.len
  (refine br (fun hc => ?_) (fun hc => ?_) <;> (try simp only [decide_eq_true_eq, decide_eq_false_iff_not, beq_iff_eq, bne_iff_ne, ne_eq, Bool.not_eq_true', Bool.not_eq_false', Bool.not_eq_true, Bool.not_eq_false, beq_eq_false_iff_ne, bne_eq_false_iff_eq, Int.not_lt, Int.not_le, gt_iff_lt, ge_iff_le, Decidable.not_not] at hc))
  · refine ⟨?_, Frm.refl _ _⟩
    have : xs ≠ ys := by rintro rfl; omega
    simp [this]
  · refine ⟨UpI n fun i g => Own g [oldA h] ∧ xs.take i = ys.take i, UpM n, UpI.start ⟨Own.start h, rfl⟩, ?_⟩
    intro g y hI
    obtain ⟨i, hi, rfl, H, hp⟩ := hI.elim
    (refine br (fun hc => ?_) (fun hc => ?_) <;> (try simp only [decide_eq_true_eq, decide_eq_false_iff_not, beq_iff_eq, bne_iff_ne, ne_eq, Bool.not_eq_true', Bool.not_eq_false', Bool.not_eq_true, Bool.not_eq_false, beq_eq_false_iff_ne, bne_eq_false_iff_eq, Int.not_lt, Int.not_le, gt_iff_lt, ge_iff_le, Decidable.not_not] at hc))
    · have hi : i < n := by omega
      refine r.nxHouseStep hi fun b o f1 f2 f3 f4 f5 ok => ?_
      repeat' (first | (first | refine ldI (by first | assumption | exact H.ld (by rfl) | exact H.ldO (by assumption)) ?_ | refine ldS (by first | assumption | exact H.ld (by rfl) | exact H.ldO (by assumption)) ?_ | refine ldB (by first | assumption | exact H.ld (by rfl) | exact H.ldO (by assumption)) ?_ | refine ldT (by first | assumption | exact H.ld (by rfl) | exact H.ldO (by assumption)) ?_ | refine re1 (by first | assumption | exact H.ld (by rfl) | exact H.ldO (by assumption)) ?_ | fail) | fail)
      refine r'.nxHouseStep (i := i) (by omega) fun b2 o2 g1 g2 g3 g4 g5 ok2 => ?_
      repeat' (first | (first | refine ldI (by first | assumption | exact H.ld (by rfl) | exact H.ldO (by assumption)) ?_ | refine ldS (by first | assumption | exact H.ld (by rfl) | exact H.ldO (by assumption)) ?_ | refine ldB (by first | assumption | exact H.ld (by rfl) | exact H.ldO (by assumption)) ?_ | refine ldT (by first | assumption | exact H.ld (by rfl) | exact H.ldO (by assumption)) ?_ | refine re1 (by first | assumption | exact H.ld (by rfl) | exact H.ldO (by assumption)) ?_ | fail) | fail)
      refine (eqHouseStep_ok (xs.getD i default) (ys.getD i default)).mono ?_
      rintro v g3 ⟨rfl, f⟩
      have H := H.ext f
      refine ⟨_, rfl, ?_⟩
      (refine br (fun hc => ?_) (fun hc => ?_) <;> (try simp only [decide_eq_true_eq, decide_eq_false_iff_not, beq_iff_eq, bne_iff_ne, ne_eq, Bool.not_eq_true', Bool.not_eq_false', Bool.not_eq_true, Bool.not_eq_false, beq_eq_false_iff_ne, bne_eq_false_iff_eq, Int.not_lt, Int.not_le, gt_iff_lt, ge_iff_le, Decidable.not_not] at hc))
      · have hc : ¬ xs.getD i default = ys.getD i default := by simpa using hc
        refine ⟨?_, H.oldE⟩
        have : xs ≠ ys := by rintro rfl; exact hc rfl
        simp [this]
      · have hc : xs.getD i default = ys.getD i default := by simpa using hc
        exact UpI.next (by omega) hi ⟨H, take_eq_snoc default hp (by omega) (by omega) hc⟩
    · rw [List.take_of_length_le (by omega), List.take_of_length_le (by omega)] at hp
      exact ⟨by simp [hp], H.oldE⟩
theorem eqRow_ok {x y : RowD} {a a' : Option Addr} {n c n' c' : Nat} (r : SlR kSm h x.samples a n c) (r' : SlR kSm h y.samples a' n' c') : CallsH PP fn_laws_eqRow [.agg ⟨x.cells a n c⟩, .agg ⟨y.cells a' n' c'⟩] h fun v h' => v = .bool (decide (x = y)) ∧ Ext h h' := by
  refine calls_laws_eqRow _ _ _ _ _ _ _ _ ?_
  unfold M_laws_eqRow
  obtain ⟨x1, x2⟩ := x
  obtain ⟨y1, y2⟩ := y
  simp only [toList_beq]
  have H := Own.start h
  repeat' (first | (first | ((refine (within_ok _ _ _).mono ?_; rintro v_ g_ ⟨rfl, rfl⟩; refine ⟨_, rfl, ?_⟩)) | (first | refine ldI (by first | assumption | exact H.ld (by rfl) | exact H.ldO (by assumption)) ?_ | refine ldS (by first | assumption | exact H.ld (by rfl) | exact H.ldO (by assumption)) ?_ | refine ldB (by first | assumption | exact H.ld (by rfl) | exact H.ldO (by assumption)) ?_ | refine ldT (by first | assumption | exact H.ld (by rfl) | exact H.ldO (by assumption)) ?_ | refine re1 (by first | assumption | exact H.ld (by rfl) | exact H.ldO (by assumption)) ?_ | fail) | (first | refine SlR.nxI (by assumption) (by first | omega | assumption) fun b_ o_ e_ r_ => ?_ | refine SlR.nxB (by assumption) (by first | omega | assumption) fun b_ o_ e_ => ?_ | refine SlR.nxS (by assumption) (by first | omega | assumption) fun b_ o_ a_ n_ c_ e_ s_ l_ => ?_ | refine SlR.ixI (by assumption) (by first | omega | assumption) (by first | omega | assumption) fun b_ o_ e_ r_ => ?_ | refine SlR.ixB (by assumption) (by first | omega | assumption) (by first | omega | assumption) fun b_ o_ e_ => ?_ | refine SlR.ixS (by assumption) (by first | omega | assumption) (by first | omega | assumption) fun b_ o_ a_ n_ c_ e_ s_ => ?_ | fail) | (refine br (fun hc => ?_) (fun hc => ?_) <;> (try simp only [decide_eq_true_eq, decide_eq_false_iff_not, beq_iff_eq, bne_iff_ne, ne_eq, Bool.not_eq_true', Bool.not_eq_false', Bool.not_eq_true, Bool.not_eq_false, beq_eq_false_iff_ne, bne_eq_false_iff_eq, Int.not_lt, Int.not_le, gt_iff_lt, ge_iff_le, Decidable.not_not] at hc)) | (refine H.nw fun g_ H => ?_) | fail) | (refine (eqSampleS_ok (r.ext H.oldE) (r'.ext H.oldE)).mono ?_; rintro v_ g_ ⟨rfl, f⟩; have H := H.ext f; refine ⟨_, rfl, ?_⟩) | fail)
  all_goals try simp only [decide_eq_false_iff_not, decide_eq_true_eq, Bool.not_eq_true', Bool.not_eq_false'] at *
  all_goals exact ⟨by simp [*], H.oldE⟩
theorem eqRowS_ok {xs ys : List RowD} {a a' : Option Addr} {n c n' c' : Nat} (r : SlR kRw h xs a n c) (r' : SlR kRw h ys a' n' c') :
    CallsH PP fn_laws_eqRowS [.slice a n c, .slice a' n' c'] h fun v h' => v = .bool (decide (xs = ys)) ∧ Ext h h' := by
  refine calls_laws_eqRowS _ _ _ _ _ _ ?_
  unfold M_laws_eqRowS
  have l := r.len
  have l' := r'.len
  (refine br (fun hc => ?_) (fun hc => ?_) <;> (try simp only [decide_eq_true_eq, decide_eq_false_iff_not, beq_iff_eq, bne_iff_ne, ne_eq, Bool.not_eq_true', Bool.not_eq_false', Bool.not_eq_true, Bool.not_eq_false, beq_eq_false_iff_ne, bne_eq_false_iff_eq, Int.not_lt, Int.not_le, gt_iff_lt, ge_iff_le, Decidable.not_not] at hc))
  · refine ⟨?_, Frm.refl _ _⟩
    have : xs ≠ ys := by rintro rfl; omega
    simp [this]
  · refine ⟨UpI n fun i g => Own g [oldA h] ∧ xs.take i = ys.take i, UpM n, UpI.start ⟨Own.start h, rfl⟩, ?_⟩
    intro g y hI
    obtain ⟨i, hi, rfl, H, hp⟩ := hI.elim
    (refine br (fun hc => ?_) (fun hc => ?_) <;> (try simp only [decide_eq_true_eq, decide_eq_false_iff_not, beq_iff_eq, bne_iff_ne, ne_eq, Bool.not_eq_true', Bool.not_eq_false', Bool.not_eq_true, Bool.not_eq_false, beq_eq_false_iff_ne, bne_eq_false_iff_eq, Int.not_lt, Int.not_le, gt_iff_lt, ge_iff_le, Decidable.not_not] at hc))
    · have hi : i < n := by omega
      refine r.nxRow hi fun b o a1 n1 c1 f1 f2 ok s1 l1 => ?_
      repeat' (first | (first | refine ldI (by first | assumption | exact H.ld (by rfl) | exact H.ldO (by assumption)) ?_ | refine ldS (by first | assumption | exact H.ld (by rfl) | exact H.ldO (by assumption)) ?_ | refine ldB (by first | assumption | exact H.ld (by rfl) | exact H.ldO (by assumption)) ?_ | refine ldT (by first | assumption | exact H.ld (by rfl) | exact H.ldO (by assumption)) ?_ | refine re1 (by first | assumption | exact H.ld (by rfl) | exact H.ldO (by assumption)) ?_ | fail) | fail)
      refine r'.nxRow (i := i) (by omega) fun b2 o2 a2 n2 c2 g1 g2 ok2 s2 l2 => ?_
      repeat' (first | (first | refine ldI (by first | assumption | exact H.ld (by rfl) | exact H.ldO (by assumption)) ?_ | refine ldS (by first | assumption | exact H.ld (by rfl) | exact H.ldO (by assumption)) ?_ | refine ldB (by first | assumption | exact H.ld (by rfl) | exact H.ldO (by assumption)) ?_ | refine ldT (by first | assumption | exact H.ld (by rfl) | exact H.ldO (by assumption)) ?_ | refine re1 (by first | assumption | exact H.ld (by rfl) | exact H.ldO (by assumption)) ?_ | fail) | fail)
      refine (eqRow_ok (x := xs.getD i default) (y := ys.getD i default) (s1.ext H.oldE) (s2.ext H.oldE)).mono ?_
      rintro v g3 ⟨rfl, f⟩
      have H := H.ext f
      refine ⟨_, rfl, ?_⟩
      (refine br (fun hc => ?_) (fun hc => ?_) <;> (try simp only [decide_eq_true_eq, decide_eq_false_iff_not, beq_iff_eq, bne_iff_ne, ne_eq, Bool.not_eq_true', Bool.not_eq_false', Bool.not_eq_true, Bool.not_eq_false, beq_eq_false_iff_ne, bne_eq_false_iff_eq, Int.not_lt, Int.not_le, gt_iff_lt, ge_iff_le, Decidable.not_not] at hc))
      · have hc : ¬ xs.getD i default = ys.getD i default := by simpa using hc
        refine ⟨?_, H.oldE⟩
        have : xs ≠ ys := by rintro rfl; exact hc rfl
        simp [this]
      · have hc : xs.getD i default = ys.getD i default := by simpa using hc
        exact UpI.next (by omega) hi ⟨H, take_eq_snoc default hp (by omega) (by omega) hc⟩
    · rw [List.take_of_length_le (by omega), List.take_of_length_le (by omega)] at hp
      exact ⟨by simp [hp], H.oldE⟩
theorem eqHead_ok {x y : HeadD} {a a' : Option Addr} {n c n' c' : Nat} (r : SlR kRw h x.rows a n c) (r' : SlR kRw h y.rows a' n' c') : CallsH PP fn_laws_eqHead [.agg ⟨[.slice a n c, .int .i64 x.offset]⟩, .agg ⟨[.slice a' n' c', .int .i64 y.offset]⟩] h fun v h' => v = .bool (decide (x = y)) ∧ Ext h h' := by
  refine calls_laws_eqHead _ _ _ _ _ _ _ _ ?_
  unfold M_laws_eqHead
  obtain ⟨x1, x2⟩ := x
  obtain ⟨y1, y2⟩ := y
  have H := Own.start h
  repeat' (first | (first | ((refine (within_ok _ _ _).mono ?_; rintro v_ g_ ⟨rfl, rfl⟩; refine ⟨_, rfl, ?_⟩)) | (first | refine ldI (by first | assumption | exact H.ld (by rfl) | exact H.ldO (by assumption)) ?_ | refine ldS (by first | assumption | exact H.ld (by rfl) | exact H.ldO (by assumption)) ?_ | refine ldB (by first | assumption | exact H.ld (by rfl) | exact H.ldO (by assumption)) ?_ | refine ldT (by first | assumption | exact H.ld (by rfl) | exact H.ldO (by assumption)) ?_ | refine re1 (by first | assumption | exact H.ld (by rfl) | exact H.ldO (by assumption)) ?_ | fail) | (first | refine SlR.nxI (by assumption) (by first | omega | assumption) fun b_ o_ e_ r_ => ?_ | refine SlR.nxB (by assumption) (by first | omega | assumption) fun b_ o_ e_ => ?_ | refine SlR.nxS (by assumption) (by first | omega | assumption) fun b_ o_ a_ n_ c_ e_ s_ l_ => ?_ | refine SlR.ixI (by assumption) (by first | omega | assumption) (by first | omega | assumption) fun b_ o_ e_ r_ => ?_ | refine SlR.ixB (by assumption) (by first | omega | assumption) (by first | omega | assumption) fun b_ o_ e_ => ?_ | refine SlR.ixS (by assumption) (by first | omega | assumption) (by first | omega | assumption) fun b_ o_ a_ n_ c_ e_ s_ => ?_ | fail) | (refine br (fun hc => ?_) (fun hc => ?_) <;> (try simp only [decide_eq_true_eq, decide_eq_false_iff_not, beq_iff_eq, bne_iff_ne, ne_eq, Bool.not_eq_true', Bool.not_eq_false', Bool.not_eq_true, Bool.not_eq_false, beq_eq_false_iff_ne, bne_eq_false_iff_eq, Int.not_lt, Int.not_le, gt_iff_lt, ge_iff_le, Decidable.not_not] at hc)) | (refine H.nw fun g_ H => ?_) | fail) | (refine (eqRowS_ok (r.ext H.oldE) (r'.ext H.oldE)).mono ?_; rintro v_ g_ ⟨rfl, f⟩; have H := H.ext f; refine ⟨_, rfl, ?_⟩) | fail)
  all_goals try simp only [decide_eq_false_iff_not, decide_eq_true_eq, Bool.not_eq_true', Bool.not_eq_false'] at *
  all_goals exact ⟨by simp [*], H.oldE⟩
end
end Go.Proofs.Ytjmhahjmbmiepaa.D
