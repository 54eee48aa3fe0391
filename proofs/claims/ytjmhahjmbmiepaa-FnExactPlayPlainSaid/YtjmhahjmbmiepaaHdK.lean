/- Contracts: heads marked and held. -/
import Derived.Test.YtjmhahjmbmiepaaHdJ
namespace Go.Proofs.Ytjmhahjmbmiepaa.D
open Go
set_option linter.unusedVariables false
set_option linter.unusedSimpArgs false

def mkS : Int → List SampleD → List SampleD
  | _, [] => []
  | k, _ :: l => ⟨k, k + 1⟩ :: mkS (k + 2) l
def szR : List RowD → Nat
  | [] => 0
  | r :: l => 1 + 2 * r.samples.length + szR l
def mkR : Int → List RowD → List RowD
  | _, [] => []
  | k, r :: l => ⟨mtext k, mkS (k + 1) r.samples⟩ :: mkR (k + (1 + 2 * r.samples.length : Nat)) l
theorem mkS_length : ∀ (l : List SampleD) (k : Int), (mkS k l).length = l.length
  | [], _ => rfl
  | _ :: l, k => by simp [mkS, mkS_length l]
theorem mkR_length : ∀ (l : List RowD) (k : Int), (mkR k l).length = l.length
  | [], _ => rfl
  | _ :: l, k => by simp [mkR, mkR_length l]
theorem mkS_get : ∀ (l : List SampleD) (k : Int) (i : Nat), i < l.length → (mkS k l).getD i default = ⟨k + 2 * (i : Int), k + 2 * (i : Int) + 1⟩
  | [], _, i, h => by simp at h
  | _ :: l, k, 0, h => by simp [mkS]
  | _ :: l, k, i + 1, h => by
    have := mkS_get l (k + 2) i (by simpa using h)
    simp only [mkS, List.getD_cons_succ, this]
    congr 1 <;> omega
theorem mkR_get : ∀ (l : List RowD) (k : Int) (i : Nat), i < l.length → (mkR k l).getD i default = ⟨mtext (k + szR (l.take i)), mkS (k + szR (l.take i) + 1) (l.getD i default).samples⟩
  | [], _, i, h => by simp at h
  | r :: l, k, 0, h => by simp [mkR, szR]
  | r :: l, k, i + 1, h => by
    have := mkR_get l (k + (1 + 2 * r.samples.length : Nat)) i (by simpa using h)
    simp only [mkR, List.getD_cons_succ, this, List.take_succ_cons, szR]
    have e : k + ((1 + 2 * r.samples.length : Nat) : Int) + (szR (l.take i) : Int) = k + ((1 + 2 * r.samples.length + szR (l.take i) : Nat) : Int) := by omega
    rw [e]
theorem szR_snoc : ∀ (l : List RowD) (i : Nat), i < l.length → szR (l.take (i + 1)) = szR (l.take i) + (1 + 2 * (l.getD i default).samples.length)
  | [], i, h => by simp at h
  | r :: l, 0, h => by simp [szR]
  | r :: l, i + 1, h => by
    have := szR_snoc l i (by simpa using h)
    simp only [List.take_succ_cons, szR, List.getD_cons_succ, this]; omega
theorem szR_le : ∀ (l : List RowD) (i : Nat), szR (l.take i) ≤ szR l
  | [], i => by simp [szR]
  | r :: l, 0 => by simp [szR]
  | r :: l, i + 1 => by have := szR_le l i; simp only [List.take_succ_cons, szR]; omega
theorem partGet {α : Type} {ys xs : List α} {i : Nat} (d : α) (h : ys.length = xs.length) (hi : i < xs.length) : (part ys xs i).getD i d = xs.getD i d := by
  rw [getD_of d (by rw [part_length h]; exact hi), part_get h hi, getD_of d hi]
theorem partSet {α : Type} {ys xs : List α} {i : Nat} (d : α) (h : ys.length = xs.length) (hi : i < xs.length) : (part ys xs i).set i (ys.getD i d) = part ys xs (i + 1) := by
  rw [getD_of d (by omega)]; exact part_set h hi

section
variable {h : Heap} {L : List Asn}
theorem markSampleS_ok {xs : List SampleD} {a : Option Addr} {n c : Nat} {k : Int} (H : Own h (slA kSm xs a n c :: L)) (hk : 0 ≤ k) (hm : k + 2 * n < 4611686018427387904) :
    CallsH PP fn_laws_markSampleS [.slice a n c, .int .i64 k] h fun v h' => v = .int .i64 (k + 2 * n) ∧ Own h' (slA kSm (mkS k xs) a n c :: L) := by
  refine calls_laws_markSampleS _ _ _ _ ?_
  unfold M_laws_markSampleS
  have l := H.len m0
  have hlen := mkS_length xs k
  refine ⟨UpK n fun i k' g => k' = k + 2 * i ∧ Own g (slA kSm (part (mkS k xs) xs i) a n c :: L), UpKM n, UpK.start ⟨by omega, by rw [part_zero]; exact H⟩, ?_⟩
  intro g k' y hI
  obtain ⟨i, hi, rfl, rfl, H⟩ := hI.elim
  (refine br (fun hc => ?_) (fun hc => ?_) <;> (try simp only [decide_eq_true_eq, decide_eq_false_iff_not, beq_iff_eq, bne_iff_ne, ne_eq, Bool.not_eq_true', Bool.not_eq_false', Bool.not_eq_true, Bool.not_eq_false, beq_eq_false_iff_ne, bne_eq_false_iff_eq, Int.not_lt, Int.not_le, gt_iff_lt, ge_iff_le, Decidable.not_not] at hc))
  · have hi : i < n := by omega
    obtain ⟨b, o, pr, ci, po, rfl, _, H⟩ := H.openAt2 2 ty_impl_Sample hi default
    obtain ⟨rfl, ok, H⟩ := H.p1.openSample
    simp only [Int.toNat_natCast]
    refine ⟨b, o, rfl, by omega, by omega, ?_⟩
    refine H.stM0 (by simp) fun g2 H => ?_
    refine ⟨b, o, rfl, by omega, by omega, ?_⟩
    refine H.stM (by simp) fun g3 H => ?_
    have w1 : IntKind.i64.wrap (k + 2 * (i : Int) + 1) = k + 2 * (i : Int) + 1 := wrap64_of (by omega) (by omega)
    have w2 : IntKind.i64.wrap (k + 2 * (i : Int) + 1 + 1) = k + 2 * ((i + 1 : Nat) : Int) := by rw [wrap64_of (by omega) (by omega)]; omega
    rw [w1] at H
    rw [w1, w2]
    have H : Own g3 (midA b (o + i * 2) ty_impl_Sample pr (SampleD.mk (k + 2 * (i : Int)) (k + 2 * (i : Int) + 1)).cells po :: restA kSm (part (mkS k xs) xs i) i (some ⟨b, o, none⟩) n c b (o + i * 2) pr po :: L) := H.to (by repeat' (first | exact trivial | exact rfl | omega | (refine ⟨?_, ?_⟩)))
    have H := Own.shutSample (t := ty_impl_Sample) (SampleD.mk (k + 2 * (i : Int)) (k + 2 * (i : Int) + 1)) ⟨by unfold inI64; dsimp only; omega, by unfold inI64; dsimp only; omega⟩ H
    have H := H.back b (o + i * 2)
    rw [← mkS_get xs k i (by omega), partSet default hlen (by omega)] at H
    exact UpK.next (by omega) hi ⟨rfl, H⟩
  · have hin : i = n := by omega
    rw [part_all hlen (by omega)] at H
    exact ⟨by rw [hin], H⟩
theorem markRowS_ok {xs : List RowD} {a : Option Addr} {n c : Nat} {k : Int} (H : Own h (slA kRw xs a n c :: L)) (hk : 0 ≤ k) (hm : k + szR xs < 4611686018427387904) :
    CallsH PP fn_laws_markRowS [.slice a n c, .int .i64 k] h fun v h' => v = .int .i64 (k + szR xs) ∧ Own h' (slA kRw (mkR k xs) a n c :: L) := by
  refine calls_laws_markRowS _ _ _ _ ?_
  unfold M_laws_markRowS
  have l := H.len m0
  have hlen := mkR_length xs k
  refine ⟨UpK n fun i k' g => k' = k + szR (xs.take i) ∧ Own g (slA kRw (part (mkR k xs) xs i) a n c :: L), UpKM n, UpK.start ⟨by simp [szR], by rw [part_zero]; exact H⟩, ?_⟩
  intro g k' y hI
  obtain ⟨i, hi, rfl, rfl, H⟩ := hI.elim
  have hle := szR_le xs i
  (refine br (fun hc => ?_) (fun hc => ?_) <;> (try simp only [decide_eq_true_eq, decide_eq_false_iff_not, beq_iff_eq, bne_iff_ne, ne_eq, Bool.not_eq_true', Bool.not_eq_false', Bool.not_eq_true, Bool.not_eq_false, beq_eq_false_iff_ne, bne_eq_false_iff_eq, Int.not_lt, Int.not_le, gt_iff_lt, ge_iff_le, Decidable.not_not] at hc))
  · have hi : i < n := by omega
    have hs := szR_snoc xs i (by omega)
    have hle2 := szR_le xs (i + 1)
    refine (markText_ok (by omega)).mono ?_
    rintro v g2 ⟨rfl, f⟩
    have H := H.ext f
    refine ⟨_, rfl, ?_⟩
    obtain ⟨b, o, pr, ci, po, rfl, _, H⟩ := H.openAt2 2 ty_impl_Row hi default
    rw [partGet default hlen (by omega)] at H
    obtain ⟨sa, ns, sc, rfl, hok, H⟩ := H.p1.openRow
    have H := H.p1
    have ls := H.ln sa ns sc
    simp only [Int.toNat_natCast]
    refine ⟨b, o, rfl, by omega, by omega, ?_⟩
    refine H.stM0 (by simp) fun g3 H => ?_
    refine ⟨b, o, rfl, by omega, by omega, ?_⟩
    (first | refine ldI (by first | assumption | exact H.ld (by rfl) | exact H.ldM (by rfl) | exact H.ldM0 (by rfl) | exact H.ldO (by assumption)) ?_ | refine ldS (by first | assumption | exact H.ld (by rfl) | exact H.ldM (by rfl) | exact H.ldM0 (by rfl) | exact H.ldO (by assumption)) ?_ | refine ldB (by first | assumption | exact H.ld (by rfl) | exact H.ldM (by rfl) | exact H.ldM0 (by rfl) | exact H.ldO (by assumption)) ?_ | refine ldT (by first | assumption | exact H.ld (by rfl) | exact H.ldM (by rfl) | exact H.ldM0 (by rfl) | exact H.ldO (by assumption)) ?_ | refine re1 (by first | assumption | exact H.ld (by rfl) | exact H.ldM (by rfl) | exact H.ldM0 (by rfl) | exact H.ldO (by assumption)) ?_ | fail)
    rw [wrap64_of (n := k + (szR (xs.take i) : Int) + 1) (by omega) (by omega)]
    refine (markSampleS_ok (H.front sa ns sc) (by omega) (by omega)).mono ?_
    rintro v g4 ⟨rfl, H⟩
    refine ⟨_, rfl, ?_⟩
    have H := Own.shutRow (t := ty_impl_Row) (RowD.mk (mtext (k + szR (xs.take i))) (mkS (k + szR (xs.take i) + 1) (xs.getD i default).samples)) trivial H
    have H : Own g4 (elA kRw (RowD.mk (mtext (k + szR (xs.take i))) (mkS (k + szR (xs.take i) + 1) (xs.getD i default).samples)) [.string (mtext (k + szR (xs.take i))), .slice sa ns sc] :: midA b (o + i * 2) ty_impl_Row pr [.string (mtext (k + szR (xs.take i))), .slice sa ns sc] po :: restA kRw (part (mkR k xs) xs i) i (some ⟨b, o, none⟩) n c b (o + i * 2) pr po :: L) := H.to (by repeat' (first | exact trivial | exact rfl | omega | (refine ⟨?_, ?_⟩)))
    have H := H.back b (o + i * 2)
    rw [← mkR_get xs k i (by omega), partSet default hlen (by omega)] at H
    exact UpK.next (by omega) hi ⟨by omega, H⟩
  · have hin : i = n := by omega
    rw [part_all hlen (by omega)] at H
    rw [List.take_of_length_le (by omega)]
    exact ⟨rfl, H⟩
theorem markHead_ok {x : HeadD} {a : Option Addr} {n c : Nat} {k : Int} (H : Own h (slA kRw x.rows a n c :: L)) (hk : 0 ≤ k) (hm : k + szR x.rows < 4611686018427387904) :
    CallsH PP fn_laws_markHead [.agg ⟨[.slice a n c, .int .i64 x.offset]⟩, .int .i64 k] h fun v h' => v = .int .i64 (k + szR x.rows) ∧ Own h' (slA kRw (mkR k x.rows) a n c :: L) := by
  refine calls_laws_markHead _ _ _ _ _ ?_
  unfold M_laws_markHead
  refine H.nw fun h4 H => ?_
  (first | refine ldI (by first | assumption | exact H.ld (by rfl) | exact H.ldO (by assumption)) ?_ | refine ldS (by first | assumption | exact H.ld (by rfl) | exact H.ldO (by assumption)) ?_ | refine ldB (by first | assumption | exact H.ld (by rfl) | exact H.ldO (by assumption)) ?_ | refine ldT (by first | assumption | exact H.ld (by rfl) | exact H.ldO (by assumption)) ?_ | refine re1 (by first | assumption | exact H.ld (by rfl) | exact H.ldO (by assumption)) ?_ | fail)
  refine (markRowS_ok (H.front a n c) hk hm).mono ?_
  rintro v g ⟨rfl, H⟩
  exact ⟨_, rfl, rfl, H.to (by repeat' (first | exact trivial | exact rfl | omega | (refine ⟨?_, ?_⟩)))⟩
theorem heldSampleS_ok {xs : List SampleD} {a : Option Addr} {n c : Nat} {k : Int} (r : SlR kSm h (mkS k xs) a n c) (hk : 0 ≤ k) (hm : k + 2 * n < 4611686018427387904) :
    CallsH PP fn_laws_heldSampleS [.slice a n c, .int .i64 k] h fun v h' => v = .int .i64 (k + 2 * n) ∧ h' = h := by
  refine calls_laws_heldSampleS _ _ _ _ ?_
  unfold M_laws_heldSampleS
  have l := r.len
  rw [mkS_length] at l
  refine ⟨UpK n fun i k' g => k' = k + 2 * i ∧ g = h, UpKM n, UpK.start ⟨by omega, rfl⟩, ?_⟩
  intro g k' y hI
  obtain ⟨i, hi, rfl, rfl, rfl⟩ := hI.elim
  (refine br (fun hc => ?_) (fun hc => ?_) <;> (try simp only [decide_eq_true_eq, decide_eq_false_iff_not, beq_iff_eq, bne_iff_ne, ne_eq, Bool.not_eq_true', Bool.not_eq_false', Bool.not_eq_true, Bool.not_eq_false, beq_eq_false_iff_ne, bne_eq_false_iff_eq, Int.not_lt, Int.not_le, gt_iff_lt, ge_iff_le, Decidable.not_not] at hc))
  · have hi : i < n := by omega
    have w1 : IntKind.i64.wrap (k + 2 * (i : Int) + 1) = k + 2 * (i : Int) + 1 := wrap64_of (by omega) (by omega)
    have w2 : IntKind.i64.wrap (k + 2 * (i : Int) + 1 + 1) = k + 2 * ((i + 1 : Nat) : Int) := by rw [wrap64_of (by omega) (by omega)]; omega
    rw [w1, w2]
    refine r.nxSample hi fun b o f1 f2 ok => ?_
    rw [mkS_get xs k i (by omega)] at f1 f2
    (first | refine ldI (by first | assumption | exact H.ld (by rfl) | exact H.ldO (by assumption)) ?_ | refine ldS (by first | assumption | exact H.ld (by rfl) | exact H.ldO (by assumption)) ?_ | refine ldB (by first | assumption | exact H.ld (by rfl) | exact H.ldO (by assumption)) ?_ | refine ldT (by first | assumption | exact H.ld (by rfl) | exact H.ldO (by assumption)) ?_ | refine re1 (by first | assumption | exact H.ld (by rfl) | exact H.ldO (by assumption)) ?_ | fail)
    (refine br (fun hc => ?_) (fun hc => ?_) <;> (try simp only [decide_eq_true_eq, decide_eq_false_iff_not, beq_iff_eq, bne_iff_ne, ne_eq, Bool.not_eq_true', Bool.not_eq_false', Bool.not_eq_true, Bool.not_eq_false, beq_eq_false_iff_ne, bne_eq_false_iff_eq, Int.not_lt, Int.not_le, gt_iff_lt, ge_iff_le, Decidable.not_not] at hc))
    · exact absurd trivial hc
    refine r.nxSample hi fun b o f1 f2 ok => ?_
    rw [mkS_get xs k i (by omega)] at f1 f2
    (first | refine ldI (by first | assumption | exact H.ld (by rfl) | exact H.ldO (by assumption)) ?_ | refine ldS (by first | assumption | exact H.ld (by rfl) | exact H.ldO (by assumption)) ?_ | refine ldB (by first | assumption | exact H.ld (by rfl) | exact H.ldO (by assumption)) ?_ | refine ldT (by first | assumption | exact H.ld (by rfl) | exact H.ldO (by assumption)) ?_ | refine re1 (by first | assumption | exact H.ld (by rfl) | exact H.ldO (by assumption)) ?_ | fail)
    (refine br (fun hc => ?_) (fun hc => ?_) <;> (try simp only [decide_eq_true_eq, decide_eq_false_iff_not, beq_iff_eq, bne_iff_ne, ne_eq, Bool.not_eq_true', Bool.not_eq_false', Bool.not_eq_true, Bool.not_eq_false, beq_eq_false_iff_ne, bne_eq_false_iff_eq, Int.not_lt, Int.not_le, gt_iff_lt, ge_iff_le, Decidable.not_not] at hc))
    · exact absurd trivial hc
    exact UpK.next (by omega) hi ⟨rfl, rfl⟩
  · have hin : i = n := by omega
    exact ⟨by rw [hin], rfl⟩
theorem heldRowS_ok {xs : List RowD} {a : Option Addr} {n c : Nat} {k : Int} (r : SlR kRw h (mkR k xs) a n c) (hk : 0 ≤ k) (hm : k + szR xs < 4611686018427387904) :
    CallsH PP fn_laws_heldRowS [.slice a n c, .int .i64 k] h fun v h' => v = .int .i64 (k + szR xs) ∧ Ext h h' := by
  refine calls_laws_heldRowS _ _ _ _ ?_
  unfold M_laws_heldRowS
  have l := r.len
  rw [mkR_length] at l
  refine ⟨UpK n fun i k' g => k' = k + szR (xs.take i) ∧ Own g [oldA h], UpKM n, UpK.start ⟨by simp [szR], Own.start h⟩, ?_⟩
  intro g k' y hI
  obtain ⟨i, hi, rfl, rfl, H⟩ := hI.elim
  have hle := szR_le xs i
  (refine br (fun hc => ?_) (fun hc => ?_) <;> (try simp only [decide_eq_true_eq, decide_eq_false_iff_not, beq_iff_eq, bne_iff_ne, ne_eq, Bool.not_eq_true', Bool.not_eq_false', Bool.not_eq_true, Bool.not_eq_false, beq_eq_false_iff_ne, bne_eq_false_iff_eq, Int.not_lt, Int.not_le, gt_iff_lt, ge_iff_le, Decidable.not_not] at hc))
  · have hi : i < n := by omega
    have hs := szR_snoc xs i (by omega)
    have hle2 := szR_le xs (i + 1)
    refine r.nxRow hi fun b o a1 n1 c1 f1 f2 ok s1 l1 => ?_
    rw [mkR_get xs k i (by omega)] at f1 s1 l1
    dsimp only at f1 s1 l1
    rw [mkS_length] at l1
    (first | refine ldI (by first | assumption | exact H.ld (by rfl) | exact H.ldO (by assumption)) ?_ | refine ldS (by first | assumption | exact H.ld (by rfl) | exact H.ldO (by assumption)) ?_ | refine ldB (by first | assumption | exact H.ld (by rfl) | exact H.ldO (by assumption)) ?_ | refine ldT (by first | assumption | exact H.ld (by rfl) | exact H.ldO (by assumption)) ?_ | refine re1 (by first | assumption | exact H.ld (by rfl) | exact H.ldO (by assumption)) ?_ | fail)
    refine (markText_ok (by omega)).mono ?_
    rintro v g2 ⟨rfl, f⟩
    have H := H.ext f
    refine ⟨_, rfl, ?_⟩
    (first | refine ldI (by first | assumption | exact H.ld (by rfl) | exact H.ldO (by assumption)) ?_ | refine ldS (by first | assumption | exact H.ld (by rfl) | exact H.ldO (by assumption)) ?_ | refine ldB (by first | assumption | exact H.ld (by rfl) | exact H.ldO (by assumption)) ?_ | refine ldT (by first | assumption | exact H.ld (by rfl) | exact H.ldO (by assumption)) ?_ | refine re1 (by first | assumption | exact H.ld (by rfl) | exact H.ldO (by assumption)) ?_ | fail)
    (refine br (fun hc => ?_) (fun hc => ?_) <;> (try simp only [decide_eq_true_eq, decide_eq_false_iff_not, beq_iff_eq, bne_iff_ne, ne_eq, Bool.not_eq_true', Bool.not_eq_false', Bool.not_eq_true, Bool.not_eq_false, beq_eq_false_iff_ne, bne_eq_false_iff_eq, Int.not_lt, Int.not_le, gt_iff_lt, ge_iff_le, Decidable.not_not] at hc))
    · exact absurd trivial hc
    refine r.nxRow hi fun b o a2 n2 c2 f3 f4 ok2 s2 l2 => ?_
    rw [mkR_get xs k i (by omega)] at f3 s2 l2
    dsimp only at f3 s2 l2
    rw [mkS_length] at l2
    (first | refine ldI (by first | assumption | exact H.ld (by rfl) | exact H.ldO (by assumption)) ?_ | refine ldS (by first | assumption | exact H.ld (by rfl) | exact H.ldO (by assumption)) ?_ | refine ldB (by first | assumption | exact H.ld (by rfl) | exact H.ldO (by assumption)) ?_ | refine ldT (by first | assumption | exact H.ld (by rfl) | exact H.ldO (by assumption)) ?_ | refine re1 (by first | assumption | exact H.ld (by rfl) | exact H.ldO (by assumption)) ?_ | fail)
    rw [wrap64_of (n := k + (szR (xs.take i) : Int) + 1) (by omega) (by omega)]
    refine (heldSampleS_ok (s2.ext H.oldE) (by omega) (by omega)).mono ?_
    rintro v g4 ⟨rfl, rfl⟩
    refine ⟨_, rfl, ?_⟩
    (refine br (fun hc => ?_) (fun hc => ?_) <;> (try simp only [decide_eq_true_eq, decide_eq_false_iff_not, beq_iff_eq, bne_iff_ne, ne_eq, Bool.not_eq_true', Bool.not_eq_false', Bool.not_eq_true, Bool.not_eq_false, beq_eq_false_iff_ne, bne_eq_false_iff_eq, Int.not_lt, Int.not_le, gt_iff_lt, ge_iff_le, Decidable.not_not] at hc))
    · omega
    exact UpK.next (by omega) hi ⟨by omega, H⟩
  · have hin : i = n := by omega
    rw [List.take_of_length_le (by omega)]
    exact ⟨rfl, H.oldE⟩
theorem heldHead_ok {x : HeadD} {a : Option Addr} {n c : Nat} {k : Int} {off : Int} (r : SlR kRw h (mkR k x.rows) a n c) (hk : 0 ≤ k) (hm : k + szR x.rows < 4611686018427387904) :
    CallsH PP fn_laws_heldHead [.agg ⟨[.slice a n c, .int .i64 off]⟩, .int .i64 k] h fun v h' => v = .int .i64 (k + szR x.rows) ∧ Ext h h' := by
  refine calls_laws_heldHead _ _ _ _ _ ?_
  unfold M_laws_heldHead
  have H := Own.start h
  refine H.nw fun h4 H => ?_
  (first | refine ldI (by first | assumption | exact H.ld (by rfl) | exact H.ldO (by assumption)) ?_ | refine ldS (by first | assumption | exact H.ld (by rfl) | exact H.ldO (by assumption)) ?_ | refine ldB (by first | assumption | exact H.ld (by rfl) | exact H.ldO (by assumption)) ?_ | refine ldT (by first | assumption | exact H.ld (by rfl) | exact H.ldO (by assumption)) ?_ | refine re1 (by first | assumption | exact H.ld (by rfl) | exact H.ldO (by assumption)) ?_ | fail)
  refine (heldRowS_ok (r.ext H.oldE) hk hm).mono ?_
  rintro v g ⟨rfl, f⟩
  have H := H.ext f
  refine ⟨_, rfl, ?_⟩
  (refine br (fun hc => ?_) (fun hc => ?_) <;> (try simp only [decide_eq_true_eq, decide_eq_false_iff_not, beq_iff_eq, bne_iff_ne, ne_eq, Bool.not_eq_true', Bool.not_eq_false', Bool.not_eq_true, Bool.not_eq_false, beq_eq_false_iff_ne, bne_eq_false_iff_eq, Int.not_lt, Int.not_le, gt_iff_lt, ge_iff_le, Decidable.not_not] at hc))
  · omega
  exact ⟨rfl, H.oldE⟩
end
end Go.Proofs.Ytjmhahjmbmiepaa.D
