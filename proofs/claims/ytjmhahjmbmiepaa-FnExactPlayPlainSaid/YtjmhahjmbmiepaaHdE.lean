/- Contracts: where a name stands; a measurement taken by the program's head. -/
import Derived.Test.YtjmhahjmbmiepaaHdD
namespace Go.Proofs.Ytjmhahjmbmiepaa.D
open Go
set_option linter.unusedVariables false
set_option linter.unusedSimpArgs false

section
variable {h : Heap} {L : List Asn}
theorem find_1_ok (nm : ByteArray) (r : ByteArray) (a : Option Addr) (n c : Nat) : CallsH PP fn_impl_Head_find_1 ([.agg ⟨[.string r, .slice a n c]⟩, .string nm] ++ []) h fun v h' => v = .int .i64 (bcmp r nm) ∧ Ext h h' := by
  refine calls_impl_Head_find_1 _ _ _ _ _ ?_
  unfold M_impl_Head_find_1
  have H := Own.start h
  repeat' (first | (first | ((refine (within_ok _ _ _).mono ?_; rintro v_ g_ ⟨rfl, rfl⟩; refine ⟨_, rfl, ?_⟩)) | (first | refine ldI (by first | assumption | exact H.ld (by rfl) | exact H.ldO (by assumption)) ?_ | refine ldS (by first | assumption | exact H.ld (by rfl) | exact H.ldO (by assumption)) ?_ | refine ldB (by first | assumption | exact H.ld (by rfl) | exact H.ldO (by assumption)) ?_ | refine ldT (by first | assumption | exact H.ld (by rfl) | exact H.ldO (by assumption)) ?_ | refine re1 (by first | assumption | exact H.ld (by rfl) | exact H.ldO (by assumption)) ?_ | fail) | (first | refine SlR.nxI (by assumption) (by first | omega | assumption) fun b_ o_ e_ r_ => ?_ | refine SlR.nxB (by assumption) (by first | omega | assumption) fun b_ o_ e_ => ?_ | refine SlR.nxS (by assumption) (by first | omega | assumption) fun b_ o_ a_ n_ c_ e_ s_ l_ => ?_ | refine SlR.ixI (by assumption) (by first | omega | assumption) (by first | omega | assumption) fun b_ o_ e_ r_ => ?_ | refine SlR.ixB (by assumption) (by first | omega | assumption) (by first | omega | assumption) fun b_ o_ e_ => ?_ | refine SlR.ixS (by assumption) (by first | omega | assumption) (by first | omega | assumption) fun b_ o_ a_ n_ c_ e_ s_ => ?_ | fail) | (refine br (fun hc => ?_) (fun hc => ?_) <;> (try simp only [decide_eq_true_eq, decide_eq_false_iff_not, beq_iff_eq, bne_iff_ne, ne_eq, Bool.not_eq_true', Bool.not_eq_false', Bool.not_eq_true, Bool.not_eq_false, beq_eq_false_iff_ne, bne_eq_false_iff_eq, Int.not_lt, Int.not_le, gt_iff_lt, ge_iff_le, Decidable.not_not] at hc)) | (refine H.nw fun g_ H => ?_) | fail) | fail)
  refine (Compare_ok _ _).mono ?_
  rintro v_ g_ ⟨rfl, rfl⟩
  exact ⟨_, rfl, rfl, H.oldE⟩
theorem callable_find_1 : Callable PP fn_impl_Head_find_1 := ⟨_, Try.func246, by kernel_rfl, by kernel_rfl⟩
theorem wrapU {n : Int} (h0 : 0 ≤ n) (h1 : n < 18446744073709551616) : IntKind.u64.wrap n = n := by
  unfold IntKind.wrap
  simp only [IntKind.bits, IntKind.signed]
  have : n % 18446744073709551616 = n := Int.emod_eq_of_lt h0 h1
  simp [this]
theorem midI {i j : Nat} (h : i + j < 4611686018427387904) : IntKind.i64.wrap (Int.fdiv (IntKind.u64.wrap (IntKind.i64.wrap ((i : Int) + (j : Int)))) (2 ^ min 1 (IntKind.bits .u64))) = (((i + j) / 2 : Nat) : Int) := by
  have e1 : IntKind.i64.wrap ((i : Int) + (j : Int)) = ((i + j : Nat) : Int) := by rw [wrap64_of (by omega) (by omega)]; omega
  rw [e1, wrapU (by omega) (by omega)]
  have e2 : (2 : Int) ^ min 1 (IntKind.bits .u64) = 2 := by decide
  rw [e2, Int.fdiv_eq_ediv_of_nonneg _ (by omega)]
  rw [wrap64_of (by omega) (by omega)]
  omega
theorem BSearch_ok {x : HeadD} {a : Option Addr} {n c : Nat} (r : SlR kRw h x.rows a n c) (w : WfH x) (nm : ByteArray) :
    CallsH PP fn_slices_BinarySearchFunc_impl_Row [.slice a n c, .string nm, .func (.func fn_impl_Head_find_1) #[] ⟨[]⟩] h fun v h' =>
      v = .tuple ⟨[.int .i64 (posD x.rows nm : Nat), .bool (decide (posD x.rows nm < n ∧ (x.rows.getD (posD x.rows nm) default).name = nm))]⟩ ∧ Ext h h' := by
  refine calls_slices_BinarySearchFunc_impl_Row _ _ _ _ _ ?_
  unfold M_slices_BinarySearchFunc_impl_Row
  obtain ⟨hl, hc0, hm⟩ := r.len
  have hfew := w.few
  refine ⟨fun vs g => ∃ i j : Nat, i ≤ j ∧ j ≤ n ∧ vs = [.int .i64 i, .int .i64 j] ∧ Own g [oldA h] ∧ (∀ t, t < i → blt (x.rows.getD t default).name nm = true) ∧ (∀ t, j ≤ t → t < n → blt (x.rows.getD t default).name nm = false),
    fun vs _ => (ivOf vs 1 - ivOf vs 0).toNat, ⟨0, n, by omega, Nat.le_refl _, rfl, Own.start h, fun t ht => by omega, fun t h1 h2 => by omega⟩, ?_⟩
  rintro g x1 x2 ⟨i, j, hij, hj, hv, H, lo, hi⟩
  simp at hv
  obtain ⟨rfl, rfl⟩ := hv
  (refine br (fun hc => ?_) (fun hc => ?_) <;> (try simp only [decide_eq_true_eq, decide_eq_false_iff_not, beq_iff_eq, bne_iff_ne, ne_eq, Bool.not_eq_true', Bool.not_eq_false', Bool.not_eq_true, Bool.not_eq_false, beq_eq_false_iff_ne, bne_eq_false_iff_eq, Int.not_lt, Int.not_le, gt_iff_lt, ge_iff_le, Decidable.not_not] at hc))
  · have hlt : i < j := by omega
    rw [midI (by omega)]
    refine ⟨by omega, ?_⟩
    refine r.nxRow (i := (i + j) / 2) (by omega) fun b o a' n' c' e1 e2 ok s l => ?_
    (first | refine ldI (by first | assumption | exact H.ld (by rfl) | exact H.ldO (by assumption)) ?_ | refine ldS (by first | assumption | exact H.ld (by rfl) | exact H.ldO (by assumption)) ?_ | refine ldB (by first | assumption | exact H.ld (by rfl) | exact H.ldO (by assumption)) ?_ | refine ldT (by first | assumption | exact H.ld (by rfl) | exact H.ldO (by assumption)) ?_ | refine re1 (by first | assumption | exact H.ld (by rfl) | exact H.ldO (by assumption)) ?_ | fail)
    (first | refine ldI (by first | assumption | exact H.ld (by rfl) | exact H.ldO (by assumption)) ?_ | refine ldS (by first | assumption | exact H.ld (by rfl) | exact H.ldO (by assumption)) ?_ | refine ldB (by first | assumption | exact H.ld (by rfl) | exact H.ldO (by assumption)) ?_ | refine ldT (by first | assumption | exact H.ld (by rfl) | exact H.ldO (by assumption)) ?_ | refine re1 (by first | assumption | exact H.ld (by rfl) | exact H.ldO (by assumption)) ?_ | fail)
    refine ⟨_, _, rfl, callable_find_1, (find_1_ok nm _ a' n' c').mono ?_⟩
    rintro v g2 ⟨rfl, f⟩
    have H := H.ext f
    refine ⟨_, rfl, ?_⟩
    (refine br (fun hc => ?_) (fun hc => ?_) <;> (try simp only [decide_eq_true_eq, decide_eq_false_iff_not, beq_iff_eq, bne_iff_ne, ne_eq, Bool.not_eq_true', Bool.not_eq_false', Bool.not_eq_true, Bool.not_eq_false, beq_eq_false_iff_ne, bne_eq_false_iff_eq, Int.not_lt, Int.not_le, gt_iff_lt, ge_iff_le, Decidable.not_not] at hc))
    · have hb := (bcmp_lt _ _).1 hc
      rw [wrap_succ (by omega)]
      refine ⟨⟨(i + j) / 2 + 1, j, by omega, hj, rfl, H, fun t ht => ?_, hi⟩, ?_⟩
      · by_cases hte : t = (i + j) / 2
        · rw [hte]; exact hb
        · exact blt_trans (w.lt (by omega) (by omega)) hb
      · simp [ivOf]; omega
    · have hb : blt (x.rows.getD ((i + j) / 2) default).name nm = false := by
        rw [← Bool.not_eq_true, ← bcmp_lt]; omega
      refine ⟨⟨i, (i + j) / 2, by omega, by omega, rfl, H, lo, fun t h1 h2 => ?_⟩, ?_⟩
      · by_cases hte : t = (i + j) / 2
        · rw [hte]; exact hb
        · cases hbt : blt (x.rows.getD t default).name nm with
          | false => rfl
          | true => have := blt_trans (w.lt (i := (i + j) / 2) (j := t) (by omega) (by omega)) hbt; rw [hb] at this; cases this
      · simp [ivOf]; omega
  · have hie : i = j := by omega
    have hpos : i = posD x.rows nm := posD_uniq (by omega) lo fun hl2 => hi i (by omega) (by omega)
    (refine br (fun hc => ?_) (fun hc => ?_) <;> (try simp only [decide_eq_true_eq, decide_eq_false_iff_not, beq_iff_eq, bne_iff_ne, ne_eq, Bool.not_eq_true', Bool.not_eq_false', Bool.not_eq_true, Bool.not_eq_false, beq_eq_false_iff_ne, bne_eq_false_iff_eq, Int.not_lt, Int.not_le, gt_iff_lt, ge_iff_le, Decidable.not_not] at hc))
    · have hin : i < n := by omega
      refine r.nxRow (i := i) hin fun b o a' n' c' e1 e2 ok s l => ?_
      (first | refine ldI (by first | assumption | exact H.ld (by rfl) | exact H.ldO (by assumption)) ?_ | refine ldS (by first | assumption | exact H.ld (by rfl) | exact H.ldO (by assumption)) ?_ | refine ldB (by first | assumption | exact H.ld (by rfl) | exact H.ldO (by assumption)) ?_ | refine ldT (by first | assumption | exact H.ld (by rfl) | exact H.ldO (by assumption)) ?_ | refine re1 (by first | assumption | exact H.ld (by rfl) | exact H.ldO (by assumption)) ?_ | fail)
      (first | refine ldI (by first | assumption | exact H.ld (by rfl) | exact H.ldO (by assumption)) ?_ | refine ldS (by first | assumption | exact H.ld (by rfl) | exact H.ldO (by assumption)) ?_ | refine ldB (by first | assumption | exact H.ld (by rfl) | exact H.ldO (by assumption)) ?_ | refine ldT (by first | assumption | exact H.ld (by rfl) | exact H.ldO (by assumption)) ?_ | refine re1 (by first | assumption | exact H.ld (by rfl) | exact H.ldO (by assumption)) ?_ | fail)
      refine ⟨_, _, rfl, callable_find_1, (find_1_ok nm _ a' n' c').mono ?_⟩
      rintro v g2 ⟨rfl, f⟩
      refine ⟨_, rfl, ?_, (H.ext f).oldE⟩
      rw [← hpos]
      congr 4
      congr 1
      rw [Bool.eq_iff_iff]
      simp [bcmp_eq, hin]
    · refine ⟨?_, H.oldE⟩
      rw [← hpos]
      have : ¬ i < n := by omega
      simp [this]
theorem find_ok {x : HeadD} {a : Option Addr} {n c b0 o0 : Nat} (c0 : cellAt h b0 o0 = some (.slice a n c)) (r : SlR kRw h x.rows a n c) (w : WfH x) (nm : ByteArray) :
    CallsH PP fn_impl_Head_find [.pointer (some ⟨b0, o0, none⟩), .string nm] h fun v h' =>
      v = .tuple ⟨[.int .i64 (posD x.rows nm : Nat), .bool (decide (posD x.rows nm < n ∧ (x.rows.getD (posD x.rows nm) default).name = nm))]⟩ ∧ Ext h h' := by
  refine calls_impl_Head_find _ _ _ ?_
  unfold M_impl_Head_find
  (first | refine ldI (by first | assumption | exact H.ld (by rfl) | exact H.ldO (by assumption)) ?_ | refine ldS (by first | assumption | exact H.ld (by rfl) | exact H.ldO (by assumption)) ?_ | refine ldB (by first | assumption | exact H.ld (by rfl) | exact H.ldO (by assumption)) ?_ | refine ldT (by first | assumption | exact H.ld (by rfl) | exact H.ldO (by assumption)) ?_ | refine re1 (by first | assumption | exact H.ld (by rfl) | exact H.ldO (by assumption)) ?_ | fail)
  refine (BSearch_ok r w nm).mono ?_
  rintro v g ⟨rfl, f⟩
  exact ⟨_, _, rfl, rfl, f⟩
theorem InsertRow_ok {xs : List RowD} {a : Option Addr} {n c i b' c2 : Nat} {e' : TypeId} {ci : List Value} {y : RowD} (H : Own h (slA kRw xs a n c :: elA kRw y ci :: rowA b' e' ci :: L)) (hi : i ≤ n) (hmax : n + 1 ≤ 536870912) :
    CallsH PP fn_slices_Insert_impl_Row [.slice a n c, .int .i64 i, .slice (some ⟨b', 0, none⟩) 1 c2] h fun v h' => ∃ a' c', v = .slice a' (n + 1) c' ∧ Own h' (slA kRw (xs.take i ++ y :: xs.drop i) a' (n + 1) c' :: L) := by
  refine calls_slices_Insert_impl_Row _ _ _ _ _ _ _ ?_
  have hr := H.row m2
  have key := Insert_core (P := PP) (k := kRw) (zs := [.string ByteArray.empty, .slice none 0 0]) (fo := fn_slices_overlaps_impl_Row) (fr := fn_slices_rotateRight_impl_Row) (c2 := c2)
    (R := fun v h' => ∃ a' c', v = .slice a' (n + 1) c' ∧ Own h' (slA kRw (xs.take i ++ y :: xs.drop i) a' (n + 1) c' :: L)) H hi hmax rfl
    (fun b o la ca hne hx => by obtain ⟨e, cs, r2, hc⟩ := hx; exact overlapsRow hne hr r2 hc) (fun a' c' h' H => ⟨a', c', rfl, H.p1.drop⟩)
  exact key
end
end Go.Proofs.Ytjmhahjmbmiepaa.D
