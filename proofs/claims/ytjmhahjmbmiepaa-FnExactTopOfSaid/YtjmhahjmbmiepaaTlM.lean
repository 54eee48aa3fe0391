/- The law's totals: sized, copied, compared, marked. -/
import Derived.Test.YtjmhahjmbmiepaaLbM
import Derived.Test.YtjmhahjmbmiepaaMkT
import Derived.Test.YtjmhahjmbmiepaaLwB
import Derived.Test.YtjmhahjmbmiepaaMi
namespace Go.Proofs.Ytjmhahjmbmiepaa.D
open Go
set_option linter.unusedVariables false
set_option linter.unusedSimpArgs false

def LbQ (x : LabelD) : Prop := x.name.size ≤ 1048576 ∧ x.value.size ≤ 1048576
def LbB (x : LabelD) : Prop := x.name.size < 9223372036854775808 ∧ x.value.size < 9223372036854775808
theorem LbQ.z {x : LabelD} (h : LbQ x) : LbZ x := by unfold LbQ at h; unfold LbZ; omega
/-- The law's labels, only read. -/
structure RdLb (h : Heap) (xs : List LabelD) (a : Option Addr) (n : Nat) : Prop where
  len : n = xs.length
  lt : n < 9223372036854775808
  at_ : ∀ i, i < n → ∃ b o, a = some ⟨b, o, none⟩ ∧ cellAt h b (o + i * 2) = some (.string (xs.getD i default).name) ∧ cellAt h b (o + i * 2 + 1) = some (.string (xs.getD i default).value) ∧ LbB (xs.getD i default)
theorem RdLb.ext {h h' : Heap} {xs : List LabelD} {a : Option Addr} {n : Nat} (r : RdLb h xs a n) (f : Ext h h') : RdLb h' xs a n :=
  ⟨r.len, r.lt, fun i hi => by
    obtain ⟨b, o, ha, h0, h1, hr⟩ := r.at_ i hi
    exact ⟨b, o, ha, cell_frm f h0 (by simp), cell_frm f h1 (by simp), hr⟩⟩
theorem RdLb.nx {h : Heap} {xs : List LabelD} {a : Option Addr} {n i : Nat} {G : Nat → Nat → Prop} (r : RdLb h xs a n) (hi : i < n)
    (hk : ∀ b o, cellAt h b (o + i * 2) = some (.string (xs.getD i default).name) → cellAt h b (o + i * 2 + 1) = some (.string (xs.getD i default).value) → LbB (xs.getD i default) → G b o) : ∃ b o, a = some ⟨b, o, none⟩ ∧ (0 : Int) ≤ (i : Int) ∧ (i : Int) < (n : Int) ∧ G b o := by
  obtain ⟨b, o, ha, h0, h1, hr⟩ := r.at_ i hi
  exact ⟨b, o, ha, by omega, by omega, hk b o h0 h1 hr⟩
structure RdTt (h : Heap) (xs : List TotalD) (a : Option Addr) (n : Nat) : Prop where
  len : n = xs.length
  lt : n < 9223372036854775808
  at_ : ∀ i, i < n → ∃ b o a1 n1 c1, a = some ⟨b, o, none⟩ ∧ cellAt h b (o + i * 5) = some (.slice a1 n1 c1) ∧ cellAt h b (o + i * 5 + 1) = some (.int .i64 (xs.getD i default).sum) ∧ cellAt h b (o + i * 5 + 2) = some (.int .i64 (xs.getD i default).count) ∧
    cellAt h b (o + i * 5 + 3) = some (.int .i64 (xs.getD i default).least) ∧ cellAt h b (o + i * 5 + 4) = some (.int .i64 (xs.getD i default).most) ∧ (xs.getD i default).ok ∧ RdLb h (xs.getD i default).labels a1 n1
theorem RdTt.ext {h h' : Heap} {xs : List TotalD} {a : Option Addr} {n : Nat} (r : RdTt h xs a n) (f : Ext h h') : RdTt h' xs a n :=
  ⟨r.len, r.lt, fun i hi => by
    obtain ⟨b, o, a1, n1, c1, ha, h0, h1, h2, h3, h4, hr, rl⟩ := r.at_ i hi
    exact ⟨b, o, a1, n1, c1, ha, cell_frm f h0 (by simp), cell_frm f h1 (by simp), cell_frm f h2 (by simp), cell_frm f h3 (by simp), cell_frm f h4 (by simp), hr, rl.ext f⟩⟩
theorem RdTt.nx {h : Heap} {xs : List TotalD} {a : Option Addr} {n i : Nat} {G : Nat → Nat → Prop} (r : RdTt h xs a n) (hi : i < n)
    (hk : ∀ b o a1 n1 c1, cellAt h b (o + i * 5) = some (.slice a1 n1 c1) → cellAt h b (o + i * 5 + 1) = some (.int .i64 (xs.getD i default).sum) → cellAt h b (o + i * 5 + 2) = some (.int .i64 (xs.getD i default).count) →
      cellAt h b (o + i * 5 + 3) = some (.int .i64 (xs.getD i default).least) → cellAt h b (o + i * 5 + 4) = some (.int .i64 (xs.getD i default).most) → (xs.getD i default).ok → RdLb h (xs.getD i default).labels a1 n1 → G b o) :
    ∃ b o, a = some ⟨b, o, none⟩ ∧ (0 : Int) ≤ (i : Int) ∧ (i : Int) < (n : Int) ∧ G b o := by
  obtain ⟨b, o, a1, n1, c1, ha, h0, h1, h2, h3, h4, hr, rl⟩ := r.at_ i hi
  exact ⟨b, o, ha, by omega, by omega, hk b o a1 n1 c1 h0 h1 h2 h3 h4 hr rl⟩
def TtQ (x : TotalD) : Prop := x.labels.length ≤ 1048576 ∧ ∀ y ∈ x.labels, LbQ y
theorem TtQ.z {x : TotalD} (h : TtQ x) : TtZ x := fun y hy => (h.2 y hy).z
theorem allG {α : Type} {l : List α} {P : α → Prop} (d : α) (h : ∀ i, i < l.length → P (l.getD i d)) : ∀ x ∈ l, P x := by
  intro x hx
  obtain ⟨i, hi, rfl⟩ := List.getElem_of_mem hx
  rw [← getD_of d hi]; exact h i hi

section
variable {h : Heap} {L : List Asn}
theorem szLabel_ok {x : LabelD} {k : Int} (hk : 0 ≤ k ∧ k ≤ 1048576) (hb : LbB x) : CallsH PP fn_laws_szLabel [.agg ⟨x.cells⟩, .int .i64 k] h fun v h' => ∃ z : Int, v = .int .i64 z ∧ Ext h h' ∧ z ≤ k ∧ (0 ≤ z → LbQ x) := by
  refine calls_laws_szLabel _ _ _ ?_
  unfold M_laws_szLabel
  obtain ⟨h1, h2⟩ := hb
  have H := Own.start h
  (refine H.nw fun g_ H => ?_)
  (first | refine ldI (by first | assumption | exact H.ld (by rfl) | exact H.ldO (by assumption)) ?_ | refine ldS (by first | assumption | exact H.ld (by rfl) | exact H.ldO (by assumption)) ?_ | refine ldB (by first | assumption | exact H.ld (by rfl) | exact H.ldO (by assumption)) ?_ | refine ldT (by first | assumption | exact H.ld (by rfl) | exact H.ldO (by assumption)) ?_ | refine re1 (by first | assumption | exact H.ld (by rfl) | exact H.ldO (by assumption)) ?_ | fail)
  rw [wrap64_of (by omega) (by omega)]
  (refine br (fun hc => ?_) (fun hc => ?_) <;> (try simp only [decide_eq_true_eq, decide_eq_false_iff_not, beq_iff_eq, bne_iff_ne, ne_eq, Bool.not_eq_true', Bool.not_eq_false', Bool.not_eq_true, Bool.not_eq_false, beq_eq_false_iff_ne, bne_eq_false_iff_eq, Int.not_lt, Int.not_le, gt_iff_lt, ge_iff_le, Decidable.not_not] at hc))
  · exact ⟨_, rfl, H.oldE, by omega, by omega⟩
  (first | refine ldI (by first | assumption | exact H.ld (by rfl) | exact H.ldO (by assumption)) ?_ | refine ldS (by first | assumption | exact H.ld (by rfl) | exact H.ldO (by assumption)) ?_ | refine ldB (by first | assumption | exact H.ld (by rfl) | exact H.ldO (by assumption)) ?_ | refine ldT (by first | assumption | exact H.ld (by rfl) | exact H.ldO (by assumption)) ?_ | refine re1 (by first | assumption | exact H.ld (by rfl) | exact H.ldO (by assumption)) ?_ | fail)
  rw [wrap64_of (by omega) (by omega)]
  unfold LbQ
  (refine br (fun hc => ?_) (fun hc => ?_) <;> (try simp only [decide_eq_true_eq, decide_eq_false_iff_not, beq_iff_eq, bne_iff_ne, ne_eq, Bool.not_eq_true', Bool.not_eq_false', Bool.not_eq_true, Bool.not_eq_false, beq_eq_false_iff_ne, bne_eq_false_iff_eq, Int.not_lt, Int.not_le, gt_iff_lt, ge_iff_le, Decidable.not_not] at hc))
  · exact ⟨_, rfl, H.oldE, by omega, by omega⟩
  · exact ⟨_, rfl, H.oldE, by omega, by omega⟩
theorem szLabelS_ok {xs : List LabelD} {a : Option Addr} {n c : Nat} {k : Int} (r : RdLb h xs a n) (hk : 0 ≤ k ∧ k ≤ 1048576) : CallsH PP fn_laws_szLabelS [.slice a n c, .int .i64 k] h fun v h' => ∃ z : Int, v = .int .i64 z ∧ Ext h h' ∧ z ≤ k ∧ (0 ≤ z → n ≤ 1048576 ∧ ∀ i, i < n → LbQ (xs.getD i default)) := by
  refine calls_laws_szLabelS _ _ _ _ ?_
  unfold M_laws_szLabelS
  have hlt := r.lt
  rw [wrap64_of (by omega) (by omega)]
  (refine br (fun hc => ?_) (fun hc => ?_) <;> (try simp only [decide_eq_true_eq, decide_eq_false_iff_not, beq_iff_eq, bne_iff_ne, ne_eq, Bool.not_eq_true', Bool.not_eq_false', Bool.not_eq_true, Bool.not_eq_false, beq_eq_false_iff_ne, bne_eq_false_iff_eq, Int.not_lt, Int.not_le, gt_iff_lt, ge_iff_le, Decidable.not_not] at hc))
  · exact ⟨_, rfl, Frm.refl _ _, by omega, by omega⟩
  · refine ⟨UpK n fun i k' g => 0 ≤ k' ∧ k' ≤ k ∧ Own g [oldA h] ∧ ∀ j, j < i → LbQ (xs.getD j default), UpKM n, UpK.start ⟨by omega, by omega, Own.start h, fun j hj => by omega⟩, ?_⟩
    intro g k' y hI
    obtain ⟨i, hi, rfl, hk0, hk1, H, hp⟩ := hI.elim
    (refine br (fun hc => ?_) (fun hc => ?_) <;> (try simp only [decide_eq_true_eq, decide_eq_false_iff_not, beq_iff_eq, bne_iff_ne, ne_eq, Bool.not_eq_true', Bool.not_eq_false', Bool.not_eq_true, Bool.not_eq_false, beq_eq_false_iff_ne, bne_eq_false_iff_eq, Int.not_lt, Int.not_le, gt_iff_lt, ge_iff_le, Decidable.not_not] at hc))
    · have hi : i < n := by omega
      refine r.nx hi fun b o f1 f2 hb => ?_
      repeat' (first | (first | refine ldI (by first | assumption | exact H.ld (by rfl) | exact H.ldO (by assumption)) ?_ | refine ldS (by first | assumption | exact H.ld (by rfl) | exact H.ldO (by assumption)) ?_ | refine ldB (by first | assumption | exact H.ld (by rfl) | exact H.ldO (by assumption)) ?_ | refine ldT (by first | assumption | exact H.ld (by rfl) | exact H.ldO (by assumption)) ?_ | refine re1 (by first | assumption | exact H.ld (by rfl) | exact H.ldO (by assumption)) ?_ | fail) | fail)
      refine (szLabel_ok (x := xs.getD i default) ⟨hk0, by omega⟩ hb).mono ?_
      rintro v g2 ⟨z, rfl, f, h1, h2⟩
      have H := H.ext f
      refine ⟨_, rfl, ?_⟩
      (refine br (fun hc => ?_) (fun hc => ?_) <;> (try simp only [decide_eq_true_eq, decide_eq_false_iff_not, beq_iff_eq, bne_iff_ne, ne_eq, Bool.not_eq_true', Bool.not_eq_false', Bool.not_eq_true, Bool.not_eq_false, beq_eq_false_iff_ne, bne_eq_false_iff_eq, Int.not_lt, Int.not_le, gt_iff_lt, ge_iff_le, Decidable.not_not] at hc))
      · exact ⟨_, rfl, H.oldE, by omega, by omega⟩
      · refine UpK.next (by omega) hi ⟨hc, by omega, H, fun j hj => ?_⟩
        by_cases hji : j = i
        · rw [hji]; exact h2 hc
        · exact hp j (by omega)
    · exact ⟨_, rfl, H.oldE, by omega, fun _ => ⟨by omega, fun j hj => hp j (by omega)⟩⟩
theorem szTotal_ok {x : TotalD} {a : Option Addr} {n c : Nat} {k : Int} (hk : 0 ≤ k ∧ k ≤ 1048576) (r : RdLb h x.labels a n) : CallsH PP fn_laws_szTotal [.agg ⟨x.cells a n c⟩, .int .i64 k] h fun v h' => ∃ z : Int, v = .int .i64 z ∧ Ext h h' ∧ z ≤ k ∧ (0 ≤ z → TtQ x) := by
  refine calls_laws_szTotal _ _ _ _ _ _ _ _ ?_
  unfold M_laws_szTotal
  have H := Own.start h
  (refine H.nw fun g_ H => ?_)
  (first | refine ldI (by first | assumption | exact H.ld (by rfl) | exact H.ldO (by assumption)) ?_ | refine ldS (by first | assumption | exact H.ld (by rfl) | exact H.ldO (by assumption)) ?_ | refine ldB (by first | assumption | exact H.ld (by rfl) | exact H.ldO (by assumption)) ?_ | refine ldT (by first | assumption | exact H.ld (by rfl) | exact H.ldO (by assumption)) ?_ | refine re1 (by first | assumption | exact H.ld (by rfl) | exact H.ldO (by assumption)) ?_ | fail)
  refine (szLabelS_ok (r.ext H.oldE) hk).mono ?_
  rintro v g ⟨z, rfl, f, h1, h2⟩
  have H := H.ext f
  have hl := r.len
  refine ⟨_, rfl, ?_⟩
  (refine br (fun hc => ?_) (fun hc => ?_) <;> (try simp only [decide_eq_true_eq, decide_eq_false_iff_not, beq_iff_eq, bne_iff_ne, ne_eq, Bool.not_eq_true', Bool.not_eq_false', Bool.not_eq_true, Bool.not_eq_false, beq_eq_false_iff_ne, bne_eq_false_iff_eq, Int.not_lt, Int.not_le, gt_iff_lt, ge_iff_le, Decidable.not_not] at hc))
  · exact ⟨_, rfl, H.oldE, by omega, by omega⟩
  · exact ⟨_, rfl, H.oldE, by omega, fun _ => ⟨by have := (h2 hc).1; omega, allG default fun i hi => (h2 hc).2 i (by omega)⟩⟩
theorem szTotalS_ok {xs : List TotalD} {a : Option Addr} {n c : Nat} (r : RdTt h xs a n) : CallsH PP fn_laws_szTotalS [.slice a n c, .int .i64 1048576] h fun v h' => ∃ z : Int, v = .int .i64 z ∧ Ext h h' ∧ (0 ≤ z → n ≤ 1048576 ∧ ∀ x ∈ xs, TtQ x) := by
  refine calls_laws_szTotalS _ _ _ _ ?_
  unfold M_laws_szTotalS
  have hlt := r.lt
  have hln := r.len
  rw [wrap64_of (by omega) (by omega)]
  (refine br (fun hc => ?_) (fun hc => ?_) <;> (try simp only [decide_eq_true_eq, decide_eq_false_iff_not, beq_iff_eq, bne_iff_ne, ne_eq, Bool.not_eq_true', Bool.not_eq_false', Bool.not_eq_true, Bool.not_eq_false, beq_eq_false_iff_ne, bne_eq_false_iff_eq, Int.not_lt, Int.not_le, gt_iff_lt, ge_iff_le, Decidable.not_not] at hc))
  · exact ⟨_, rfl, Frm.refl _ _, by omega⟩
  · refine ⟨UpK n fun i k g => 0 ≤ k ∧ k ≤ 1048576 ∧ Own g [oldA h] ∧ ∀ j, j < i → TtQ (xs.getD j default), UpKM n, UpK.start ⟨by omega, by omega, Own.start h, fun j hj => by omega⟩, ?_⟩
    intro g k y hI
    obtain ⟨i, hi, rfl, hk0, hk1, H, hp⟩ := hI.elim
    (refine br (fun hc => ?_) (fun hc => ?_) <;> (try simp only [decide_eq_true_eq, decide_eq_false_iff_not, beq_iff_eq, bne_iff_ne, ne_eq, Bool.not_eq_true', Bool.not_eq_false', Bool.not_eq_true, Bool.not_eq_false, beq_eq_false_iff_ne, bne_eq_false_iff_eq, Int.not_lt, Int.not_le, gt_iff_lt, ge_iff_le, Decidable.not_not] at hc))
    · have hi : i < n := by omega
      refine r.nx hi fun b o a1 n1 c1 f1 f2 f3 f4 f5 ok rl => ?_
      repeat' (first | (first | refine ldI (by first | assumption | exact H.ld (by rfl) | exact H.ldO (by assumption)) ?_ | refine ldS (by first | assumption | exact H.ld (by rfl) | exact H.ldO (by assumption)) ?_ | refine ldB (by first | assumption | exact H.ld (by rfl) | exact H.ldO (by assumption)) ?_ | refine ldT (by first | assumption | exact H.ld (by rfl) | exact H.ldO (by assumption)) ?_ | refine re1 (by first | assumption | exact H.ld (by rfl) | exact H.ldO (by assumption)) ?_ | fail) | fail)
      refine (szTotal_ok (x := xs.getD i default) ⟨hk0, hk1⟩ (rl.ext H.oldE)).mono ?_
      rintro v g2 ⟨z, rfl, f, h1, h2⟩
      have H := H.ext f
      refine ⟨_, rfl, ?_⟩
      (refine br (fun hc => ?_) (fun hc => ?_) <;> (try simp only [decide_eq_true_eq, decide_eq_false_iff_not, beq_iff_eq, bne_iff_ne, ne_eq, Bool.not_eq_true', Bool.not_eq_false', Bool.not_eq_true, Bool.not_eq_false, beq_eq_false_iff_ne, bne_eq_false_iff_eq, Int.not_lt, Int.not_le, gt_iff_lt, ge_iff_le, Decidable.not_not] at hc))
      · exact ⟨_, rfl, H.oldE, by omega⟩
      · refine UpK.next (by omega) hi ⟨hc, by omega, H, fun j hj => ?_⟩
        by_cases hji : j = i
        · rw [hji]; exact h2 hc
        · exact hp j (by omega)
    · exact ⟨_, rfl, H.oldE, fun _ => ⟨by omega, allG default fun j hj => hp j (by omega)⟩⟩

theorem toLabel_ok (x : LabelD) : CallsH PP fn_laws_toLabel [.agg ⟨x.cells⟩] h fun v h' => v = .agg ⟨x.cells⟩ ∧ Ext h h' := by
  refine calls_laws_toLabel _ _ ?_
  unfold M_laws_toLabel
  have H := Own.start h
  repeat' (first | (first | refine ldI (by first | assumption | exact H.ld (by rfl) | exact H.ldO (by assumption)) ?_ | refine ldS (by first | assumption | exact H.ld (by rfl) | exact H.ldO (by assumption)) ?_ | refine ldB (by first | assumption | exact H.ld (by rfl) | exact H.ldO (by assumption)) ?_ | refine ldT (by first | assumption | exact H.ld (by rfl) | exact H.ldO (by assumption)) ?_ | refine re1 (by first | assumption | exact H.ld (by rfl) | exact H.ldO (by assumption)) ?_ | fail) | (refine H.nw fun g_ H => ?_) | (first | refine H.st (by simp) fun g_ H => ?_ | refine H.sts (by simp) fun g_ H => ?_ | fail) | fail)
  exact ⟨rfl, H.oldE⟩
theorem repLb (h : Heap) : kLb.rep h default [.string ByteArray.empty, .string ByteArray.empty] [] := ⟨rfl, rfl, trivial⟩
theorem toLabelS_ok {xs : List LabelD} {a : Option Addr} {n c : Nat} (r : RdLb h xs a n) (hn : n ≤ 1048576) : CallsH PP fn_laws_toLabelS [.slice a n c] h fun v h' => ∃ a', v = .slice a' n n ∧ Own h' [slA kLb xs a' n n, oldA h] := by
  refine calls_laws_toLabelS _ _ _ ?_
  unfold M_laws_toLabelS
  have hl := r.len
  have H := Own.start h
  refine ⟨by omega, by omega, by omega, by omega, ?_⟩
  intro h2 e2
  have H := (H.made kLb default (fun g => repLb g) (m := n) (by omega)).at e2
  refine ⟨UpI n fun i g => Own g [slA kLb (xs.take i ++ List.replicate (n - i) default) (some ⟨h.size, 0, none⟩) n n, oldA h], UpM n, UpI.start (by simpa using H), ?_⟩
  intro g y hI
  obtain ⟨i, hi, rfl, H⟩ := hI.elim
  (refine br (fun hc => ?_) (fun hc => ?_) <;> (try simp only [decide_eq_true_eq, decide_eq_false_iff_not, beq_iff_eq, bne_iff_ne, ne_eq, Bool.not_eq_true', Bool.not_eq_false', Bool.not_eq_true, Bool.not_eq_false, beq_eq_false_iff_ne, bne_eq_false_iff_eq, Int.not_lt, Int.not_le, gt_iff_lt, ge_iff_le, Decidable.not_not] at hc))
  · have hi : i < n := by omega
    refine r.nx hi fun b o f1 f2 hb => ?_
    repeat' (first | (first | refine ldI (by first | assumption | exact H.ld (by rfl) | exact H.ldO (by assumption)) ?_ | refine ldS (by first | assumption | exact H.ld (by rfl) | exact H.ldO (by assumption)) ?_ | refine ldB (by first | assumption | exact H.ld (by rfl) | exact H.ldO (by assumption)) ?_ | refine ldT (by first | assumption | exact H.ld (by rfl) | exact H.ldO (by assumption)) ?_ | refine re1 (by first | assumption | exact H.ld (by rfl) | exact H.ldO (by assumption)) ?_ | fail) | fail)
    refine (toLabel_ok (xs.getD i default)).mono ?_
    rintro v g2 ⟨rfl, f⟩
    have H := H.ext f
    refine ⟨_, _, rfl, by omega, by omega, ?_⟩
    simp only [Int.toNat_natCast]
    refine H.setFlat (y := xs.getD i default) (flatLabel _) hi (fun h => ⟨rfl, rfl, trivial⟩) fun g3 H => ?_
    rw [fillSet default hl hi] at H
    exact UpI.next (by omega) hi H
  · have hin : i = n := by omega
    rw [hin, List.take_of_length_le (by omega), Nat.sub_self, List.replicate_zero, List.append_nil] at H
    exact ⟨_, rfl, H⟩
/-- All cells of an element are written. -/
theorem Own.stsM {b o q : Nat} {e : TypeId} {pre cs post news : List Value} {R : List Asn} {G : Heap → Prop} (H : Own h L) [i : MidIn b o L e pre cs post R] (hl : news.length = cs.length) (hk : ∀ g, Own g (midA b o e pre news post :: R) → G g) (hq : q = cs.length := by rfl) :
    ∃ (e : TypeId) (c : List Value), Row h b e c ∧ o + q ≤ c.length ∧ ∀ g, g = putRow h b e (splice c o news) → G g := by
  subst hq
  obtain ⟨rfl, H⟩ := (H.perm i.perm).midOpen
  refine ⟨e, _, H.row m0, by simp, fun g hg => hk g (Own.midShut rfl ?_)⟩
  rw [List.append_assoc, spliceAt rfl (by simp; omega), hl, List.drop_append_of_le_length (by omega), List.drop_length, List.nil_append] at hg
  exact hg ▸ H.put _
theorem toTotal_ok {x : TotalD} {a : Option Addr} {n c : Nat} (r : RdLb h x.labels a n) (hn : n ≤ 1048576) : CallsH PP fn_laws_toTotal [.agg ⟨x.cells a n c⟩] h fun v h' => ∃ a', v = .agg ⟨x.cells a' n n⟩ ∧ Own h' [slA kLb x.labels a' n n, oldA h] := by
  refine calls_laws_toTotal _ _ _ _ _ _ _ ?_
  unfold M_laws_toTotal
  have H := Own.start h
  (refine H.nw fun g_ H => ?_)
  (refine H.nw fun g_ H => ?_)
  (refine H.nw fun g_ H => ?_)
  (first | refine ldI (by first | assumption | exact H.ld (by rfl) | exact H.ldO (by assumption)) ?_ | refine ldS (by first | assumption | exact H.ld (by rfl) | exact H.ldO (by assumption)) ?_ | refine ldB (by first | assumption | exact H.ld (by rfl) | exact H.ldO (by assumption)) ?_ | refine ldT (by first | assumption | exact H.ld (by rfl) | exact H.ldO (by assumption)) ?_ | refine re1 (by first | assumption | exact H.ld (by rfl) | exact H.ldO (by assumption)) ?_ | fail)
  refine (toLabelS_ok (r.ext H.oldE) hn).mono ?_
  rintro v g ⟨a', rfl, H1⟩
  have H := H.lift1 H1
  refine ⟨_, _, _, rfl, ?_⟩
  repeat' (first | (first | refine ldI (by first | assumption | exact H.ld (by rfl) | exact H.ldO (by assumption)) ?_ | refine ldS (by first | assumption | exact H.ld (by rfl) | exact H.ldO (by assumption)) ?_ | refine ldB (by first | assumption | exact H.ld (by rfl) | exact H.ldO (by assumption)) ?_ | refine ldT (by first | assumption | exact H.ld (by rfl) | exact H.ldO (by assumption)) ?_ | refine re1 (by first | assumption | exact H.ld (by rfl) | exact H.ldO (by assumption)) ?_ | fail) | (first | refine H.st (by simp) fun g_ H => ?_ | refine H.sts (by simp) fun g_ H => ?_ | fail) | fail)
  exact ⟨_, rfl, H.to (by repeat' (first | exact trivial | exact rfl | omega | (refine ⟨?_, ?_⟩)))⟩
theorem repTt (h : Heap) : kTt.rep h default [.slice none 0 0, .int .i64 0, .int .i64 0, .int .i64 0, .int .i64 0] [] :=
  ⟨none, 0, 0, [], rfl, rfl, by simp [TotalD.ok, inI64, default, instInhabitedTotalD.default], Sl.nil _ h⟩
theorem toTotalS_ok {xs : List TotalD} {a : Option Addr} {n c : Nat} (r : RdTt h xs a n) (hn : n ≤ 1048576) (hq : ∀ x ∈ xs, TtQ x) : CallsH PP fn_laws_toTotalS [.slice a n c] h fun v h' => ∃ a', v = .slice a' n n ∧ Own h' [slA kTt xs a' n n, oldA h] := by
  refine calls_laws_toTotalS _ _ _ ?_
  unfold M_laws_toTotalS
  have hl := r.len
  have H := Own.start h
  refine ⟨by omega, by omega, by omega, by omega, ?_⟩
  intro h2 e2
  have H := (H.made kTt default (fun g => repTt g) (m := n) (by omega)).at e2
  refine ⟨UpI n fun i g => Own g [slA kTt (xs.take i ++ List.replicate (n - i) default) (some ⟨h.size, 0, none⟩) n n, oldA h], UpM n, UpI.start (by simpa using H), ?_⟩
  intro g y hI
  obtain ⟨i, hi, rfl, H⟩ := hI.elim
  (refine br (fun hc => ?_) (fun hc => ?_) <;> (try simp only [decide_eq_true_eq, decide_eq_false_iff_not, beq_iff_eq, bne_iff_ne, ne_eq, Bool.not_eq_true', Bool.not_eq_false', Bool.not_eq_true, Bool.not_eq_false, beq_eq_false_iff_ne, bne_eq_false_iff_eq, Int.not_lt, Int.not_le, gt_iff_lt, ge_iff_le, Decidable.not_not] at hc))
  · have hi : i < n := by omega
    have hqi := memG default hq (show i < xs.length by omega)
    refine r.nx hi fun b o a1 n1 c1 f1 f2 f3 f4 f5 ok rl => ?_
    repeat' (first | (first | refine ldI (by first | assumption | exact H.ld (by rfl) | exact H.ldO (by assumption)) ?_ | refine ldS (by first | assumption | exact H.ld (by rfl) | exact H.ldO (by assumption)) ?_ | refine ldB (by first | assumption | exact H.ld (by rfl) | exact H.ldO (by assumption)) ?_ | refine ldT (by first | assumption | exact H.ld (by rfl) | exact H.ldO (by assumption)) ?_ | refine re1 (by first | assumption | exact H.ld (by rfl) | exact H.ldO (by assumption)) ?_ | fail) | fail)
    have hl1 := rl.len
    have hq1 := hqi.1
    refine (toTotal_ok (x := xs.getD i default) (rl.ext H.oldE) (by omega)).mono ?_
    rintro v g2 ⟨a', rfl, H1⟩
    have H := H.lift1 H1
    refine ⟨_, _, _, _, _, _, _, rfl, by omega, by omega, ?_⟩
    simp only [Int.toNat_natCast]
    obtain ⟨b', o', pr, ci, po, hbo, hci, H⟩ := (H.front (some ⟨h.size, 0, none⟩) n n).openAt2 5 ty_impl_Total hi default
    injection hbo with hbo
    injection hbo with e1 e2 _
    subst e1 e2
    have H := H.p1.drop
    refine H.stsM (news := (xs.getD i default).cells a' n1 n1) (by rw [hci]; rfl) (fun g3 H => ?_) hci.symm
    have H : Own g3 (slA kLb (xs.getD i default).labels a' n1 n1 :: midA h.size (0 + i * 5) ty_impl_Total pr ((xs.getD i default).cells a' n1 n1) po :: restA kTt (xs.take i ++ List.replicate (n - i) default) i (some ⟨h.size, 0, none⟩) n n h.size (0 + i * 5) pr po :: [oldA h]) := H.to (by repeat' (first | exact trivial | exact rfl | omega | (refine ⟨?_, ?_⟩)))
    have H := Own.shutTotal (t := ty_impl_Total) (xs.getD i default) ok H
    have H := H.back h.size (0 + i * 5)
    rw [fillSet default hl hi] at H
    exact UpI.next (by omega) hi (H.to (by repeat' (first | exact trivial | exact rfl | omega | (refine ⟨?_, ?_⟩))))
  · have hin : i = n := by omega
    rw [hin, List.take_of_length_le (by omega), Nat.sub_self, List.replicate_zero, List.append_nil] at H
    exact ⟨_, rfl, H⟩

/-! ### Equal -/

theorem eqLabel_ok (x y : LabelD) : CallsH PP fn_laws_eqLabel [.agg ⟨x.cells⟩, .agg ⟨y.cells⟩] h fun v h' => v = .bool (decide (x = y)) ∧ Ext h h' := by
  refine calls_laws_eqLabel _ _ _ _ ?_
  unfold M_laws_eqLabel
  obtain ⟨x1, x2⟩ := x
  obtain ⟨y1, y2⟩ := y
  simp only [toList_beq]
  have H := Own.start h
  repeat' (first | (first | ((refine (within_ok _ _ _).mono ?_; rintro v_ g_ ⟨rfl, rfl⟩; refine ⟨_, rfl, ?_⟩)) | (first | refine ldI (by first | assumption | exact H.ld (by rfl) | exact H.ldO (by assumption)) ?_ | refine ldS (by first | assumption | exact H.ld (by rfl) | exact H.ldO (by assumption)) ?_ | refine ldB (by first | assumption | exact H.ld (by rfl) | exact H.ldO (by assumption)) ?_ | refine ldT (by first | assumption | exact H.ld (by rfl) | exact H.ldO (by assumption)) ?_ | refine re1 (by first | assumption | exact H.ld (by rfl) | exact H.ldO (by assumption)) ?_ | fail) | (first | refine SlR.nxI (by assumption) (by first | omega | assumption) fun b_ o_ e_ r_ => ?_ | refine SlR.nxB (by assumption) (by first | omega | assumption) fun b_ o_ e_ => ?_ | refine SlR.nxS (by assumption) (by first | omega | assumption) fun b_ o_ a_ n_ c_ e_ s_ l_ => ?_ | refine SlR.ixI (by assumption) (by first | omega | assumption) (by first | omega | assumption) fun b_ o_ e_ r_ => ?_ | refine SlR.ixB (by assumption) (by first | omega | assumption) (by first | omega | assumption) fun b_ o_ e_ => ?_ | refine SlR.ixS (by assumption) (by first | omega | assumption) (by first | omega | assumption) fun b_ o_ a_ n_ c_ e_ s_ => ?_ | fail) | (refine br (fun hc => ?_) (fun hc => ?_) <;> (try simp only [decide_eq_true_eq, decide_eq_false_iff_not, beq_iff_eq, bne_iff_ne, ne_eq, Bool.not_eq_true', Bool.not_eq_false', Bool.not_eq_true, Bool.not_eq_false, beq_eq_false_iff_ne, bne_eq_false_iff_eq, Int.not_lt, Int.not_le, gt_iff_lt, ge_iff_le, Decidable.not_not] at hc)) | (refine H.nw fun g_ H => ?_) | fail) | fail)
  all_goals try simp only [decide_eq_false_iff_not, decide_eq_true_eq, Bool.not_eq_true', Bool.not_eq_false'] at *
  all_goals exact ⟨by simp [*], H.oldE⟩
theorem eqLabelS_ok {xs ys : List LabelD} {a a' : Option Addr} {n c n' c' : Nat} (r : SlR kLb h xs a n c) (r' : SlR kLb h ys a' n' c') :
    CallsH PP fn_laws_eqLabelS [.slice a n c, .slice a' n' c'] h fun v h' => v = .bool (decide (xs = ys)) ∧ Ext h h' := by
  refine calls_laws_eqLabelS _ _ _ _ _ _ ?_
  unfold M_laws_eqLabelS
  have l := r.len
  have l' := r'.len
  (refine br (fun hc => ?_) (fun hc => ?_) <;> (try simp only [decide_eq_true_eq, decide_eq_false_iff_not, beq_iff_eq, bne_iff_ne, ne_eq, Bool.not_eq_true', Bool.not_eq_false', Bool.not_eq_true, Bool.not_eq_false, beq_eq_false_iff_ne, bne_eq_false_iff_eq, Int.not_lt, Int.not_le, gt_iff_lt, ge_iff_le, Decidable.not_not] at hc))
  · refine ⟨?_, Frm.refl _ _⟩
    have : xs ≠ ys := by rintro rfl; omega
    simp [this]
  · refine ⟨UpI n fun i g => Own g [oldA h] ∧ xs.take i = ys.take i, UpM n, UpI.start ⟨Own.start h, rfl⟩, ?_⟩
    intro g y hI
    obtain ⟨i, hi, rfl, H, hp⟩ := hI.elim
    (refine br (fun hc => ?_) (fun hc => ?_) <;> (try simp only [decide_eq_true_eq, decide_eq_false_iff_not, beq_iff_eq, bne_iff_ne, ne_eq, Bool.not_eq_true', Bool.not_eq_false', Bool.not_eq_true, Bool.not_eq_false, beq_eq_false_iff_ne, bne_eq_false_iff_eq, Int.not_lt, Int.not_le, gt_iff_lt, ge_iff_le, Decidable.not_not] at hc))
    · have hi : i < n := by omega
      refine r.nxLabel hi fun b o f1 f2 ok => ?_
      repeat' (first | (first | refine ldI (by first | assumption | exact H.ld (by rfl) | exact H.ldO (by assumption)) ?_ | refine ldS (by first | assumption | exact H.ld (by rfl) | exact H.ldO (by assumption)) ?_ | refine ldB (by first | assumption | exact H.ld (by rfl) | exact H.ldO (by assumption)) ?_ | refine ldT (by first | assumption | exact H.ld (by rfl) | exact H.ldO (by assumption)) ?_ | refine re1 (by first | assumption | exact H.ld (by rfl) | exact H.ldO (by assumption)) ?_ | fail) | fail)
      refine r'.nxLabel (i := i) (by omega) fun b2 o2 g1 g2 ok2 => ?_
      repeat' (first | (first | refine ldI (by first | assumption | exact H.ld (by rfl) | exact H.ldO (by assumption)) ?_ | refine ldS (by first | assumption | exact H.ld (by rfl) | exact H.ldO (by assumption)) ?_ | refine ldB (by first | assumption | exact H.ld (by rfl) | exact H.ldO (by assumption)) ?_ | refine ldT (by first | assumption | exact H.ld (by rfl) | exact H.ldO (by assumption)) ?_ | refine re1 (by first | assumption | exact H.ld (by rfl) | exact H.ldO (by assumption)) ?_ | fail) | fail)
      refine (eqLabel_ok (xs.getD i default) (ys.getD i default)).mono ?_
      rintro v g3 ⟨rfl, f⟩
      have H := H.ext f
      refine ⟨_, rfl, ?_⟩
      (refine br (fun hc => ?_) (fun hc => ?_) <;> (try simp only [decide_eq_true_eq, decide_eq_false_iff_not, beq_iff_eq, bne_iff_ne, ne_eq, Bool.not_eq_true', Bool.not_eq_false', Bool.not_eq_true, Bool.not_eq_false, beq_eq_false_iff_ne, bne_eq_false_iff_eq, Int.not_lt, Int.not_le, gt_iff_lt, ge_iff_le, Decidable.not_not] at hc))
      · have hc : ¬ xs.getD i default = ys.getD i default := by simpa using hc
        refine ⟨?_, H.oldE⟩
        have : xs ≠ ys := by rintro rfl; exact hc rfl
        simp [this]
      · have hc : xs.getD i default = ys.getD i default := by simpa using hc
        exact UpI.next (by omega) hi ⟨H, take_eq_snoc default hp (by omega) (by omega) hc⟩
    · rw [List.take_of_length_le (by omega), List.take_of_length_le (by omega)] at hp
      exact ⟨by simp [hp], H.oldE⟩
theorem eqTotal_ok {x y : TotalD} {a a' : Option Addr} {n c n' c' : Nat} (r : SlR kLb h x.labels a n c) (r' : SlR kLb h y.labels a' n' c') : CallsH PP fn_laws_eqTotal [.agg ⟨x.cells a n c⟩, .agg ⟨y.cells a' n' c'⟩] h fun v h' => v = .bool (decide (x = y)) ∧ Ext h h' := by
  refine calls_laws_eqTotal _ _ _ _ _ _ _ _ _ _ _ _ _ _ ?_
  unfold M_laws_eqTotal
  obtain ⟨x1, x2, x3, x4, x5⟩ := x
  obtain ⟨y1, y2, y3, y4, y5⟩ := y
  have H := Own.start h
  repeat' (first | (first | ((refine (within_ok _ _ _).mono ?_; rintro v_ g_ ⟨rfl, rfl⟩; refine ⟨_, rfl, ?_⟩)) | (first | refine ldI (by first | assumption | exact H.ld (by rfl) | exact H.ldO (by assumption)) ?_ | refine ldS (by first | assumption | exact H.ld (by rfl) | exact H.ldO (by assumption)) ?_ | refine ldB (by first | assumption | exact H.ld (by rfl) | exact H.ldO (by assumption)) ?_ | refine ldT (by first | assumption | exact H.ld (by rfl) | exact H.ldO (by assumption)) ?_ | refine re1 (by first | assumption | exact H.ld (by rfl) | exact H.ldO (by assumption)) ?_ | fail) | (first | refine SlR.nxI (by assumption) (by first | omega | assumption) fun b_ o_ e_ r_ => ?_ | refine SlR.nxB (by assumption) (by first | omega | assumption) fun b_ o_ e_ => ?_ | refine SlR.nxS (by assumption) (by first | omega | assumption) fun b_ o_ a_ n_ c_ e_ s_ l_ => ?_ | refine SlR.ixI (by assumption) (by first | omega | assumption) (by first | omega | assumption) fun b_ o_ e_ r_ => ?_ | refine SlR.ixB (by assumption) (by first | omega | assumption) (by first | omega | assumption) fun b_ o_ e_ => ?_ | refine SlR.ixS (by assumption) (by first | omega | assumption) (by first | omega | assumption) fun b_ o_ a_ n_ c_ e_ s_ => ?_ | fail) | (refine br (fun hc => ?_) (fun hc => ?_) <;> (try simp only [decide_eq_true_eq, decide_eq_false_iff_not, beq_iff_eq, bne_iff_ne, ne_eq, Bool.not_eq_true', Bool.not_eq_false', Bool.not_eq_true, Bool.not_eq_false, beq_eq_false_iff_ne, bne_eq_false_iff_eq, Int.not_lt, Int.not_le, gt_iff_lt, ge_iff_le, Decidable.not_not] at hc)) | (refine H.nw fun g_ H => ?_) | fail) | (refine (eqLabelS_ok (r.ext H.oldE) (r'.ext H.oldE)).mono ?_; rintro v_ g_ ⟨rfl, f⟩; have H := H.ext f; refine ⟨_, rfl, ?_⟩) | fail)
  all_goals try simp only [decide_eq_false_iff_not, decide_eq_true_eq, Bool.not_eq_true', Bool.not_eq_false'] at *
  all_goals exact ⟨by simp [*], H.oldE⟩
theorem eqTotalS_ok {xs ys : List TotalD} {a a' : Option Addr} {n c n' c' : Nat} (r : SlR kTt h xs a n c) (r' : SlR kTt h ys a' n' c') :
    CallsH PP fn_laws_eqTotalS [.slice a n c, .slice a' n' c'] h fun v h' => v = .bool (decide (xs = ys)) ∧ Ext h h' := by
  refine calls_laws_eqTotalS _ _ _ _ _ _ ?_
  unfold M_laws_eqTotalS
  have l := r.len
  have l' := r'.len
  (refine br (fun hc => ?_) (fun hc => ?_) <;> (try simp only [decide_eq_true_eq, decide_eq_false_iff_not, beq_iff_eq, bne_iff_ne, ne_eq, Bool.not_eq_true', Bool.not_eq_false', Bool.not_eq_true, Bool.not_eq_false, beq_eq_false_iff_ne, bne_eq_false_iff_eq, Int.not_lt, Int.not_le, gt_iff_lt, ge_iff_le, Decidable.not_not] at hc))
  · refine ⟨?_, Frm.refl _ _⟩
    have : xs ≠ ys := by rintro rfl; omega
    simp [this]
  · refine ⟨UpI n fun i g => Own g [oldA h] ∧ xs.take i = ys.take i, UpM n, UpI.start ⟨Own.start h, rfl⟩, ?_⟩
    intro g y hI
    obtain ⟨i, hi, rfl, H, hp⟩ := hI.elim
    (refine br (fun hc => ?_) (fun hc => ?_) <;> (try simp only [decide_eq_true_eq, decide_eq_false_iff_not, beq_iff_eq, bne_iff_ne, ne_eq, Bool.not_eq_true', Bool.not_eq_false', Bool.not_eq_true, Bool.not_eq_false, beq_eq_false_iff_ne, bne_eq_false_iff_eq, Int.not_lt, Int.not_le, gt_iff_lt, ge_iff_le, Decidable.not_not] at hc))
    · have hi : i < n := by omega
      refine r.nxTotal hi fun b o a1 n1 c1 f1 f2 f3 f4 f5 ok s1 l1 => ?_
      repeat' (first | (first | refine ldI (by first | assumption | exact H.ld (by rfl) | exact H.ldO (by assumption)) ?_ | refine ldS (by first | assumption | exact H.ld (by rfl) | exact H.ldO (by assumption)) ?_ | refine ldB (by first | assumption | exact H.ld (by rfl) | exact H.ldO (by assumption)) ?_ | refine ldT (by first | assumption | exact H.ld (by rfl) | exact H.ldO (by assumption)) ?_ | refine re1 (by first | assumption | exact H.ld (by rfl) | exact H.ldO (by assumption)) ?_ | fail) | fail)
      refine r'.nxTotal (i := i) (by omega) fun b2 o2 a2 n2 c2 g1 g2 g3 g4 g5 ok2 s2 l2 => ?_
      repeat' (first | (first | refine ldI (by first | assumption | exact H.ld (by rfl) | exact H.ldO (by assumption)) ?_ | refine ldS (by first | assumption | exact H.ld (by rfl) | exact H.ldO (by assumption)) ?_ | refine ldB (by first | assumption | exact H.ld (by rfl) | exact H.ldO (by assumption)) ?_ | refine ldT (by first | assumption | exact H.ld (by rfl) | exact H.ldO (by assumption)) ?_ | refine re1 (by first | assumption | exact H.ld (by rfl) | exact H.ldO (by assumption)) ?_ | fail) | fail)
      refine (eqTotal_ok (x := xs.getD i default) (y := ys.getD i default) (s1.ext H.oldE) (s2.ext H.oldE)).mono ?_
      rintro v g3 ⟨rfl, f⟩
      have H := H.ext f
      refine ⟨_, rfl, ?_⟩
      (refine br (fun hc => ?_) (fun hc => ?_) <;> (try simp only [decide_eq_true_eq, decide_eq_false_iff_not, beq_iff_eq, bne_iff_ne, ne_eq, Bool.not_eq_true', Bool.not_eq_false', Bool.not_eq_true, Bool.not_eq_false, beq_eq_false_iff_ne, bne_eq_false_iff_eq, Int.not_lt, Int.not_le, gt_iff_lt, ge_iff_le, Decidable.not_not] at hc))
      · have hc : ¬ xs.getD i default = ys.getD i default := by simpa using hc
        refine ⟨?_, H.oldE⟩
        have : xs ≠ ys := by rintro rfl; exact hc rfl
        simp [this]
      · have hc : xs.getD i default = ys.getD i default := by simpa using hc
        exact UpI.next (by omega) hi ⟨H, take_eq_snoc default hp (by omega) (by omega) hc⟩
    · rw [List.take_of_length_le (by omega), List.take_of_length_le (by omega)] at hp
      exact ⟨by simp [hp], H.oldE⟩

/-! ### Marked -/

theorem markLabelS_ok {xs : List LabelD} {a : Option Addr} {n c : Nat} {k : Int} (H : Own h (slA kLb xs a n c :: L)) (hk : 0 ≤ k) (hm : k + 2 * n < 4611686018427387904) :
    CallsH PP fn_laws_markLabelS [.slice a n c, .int .i64 k] h fun v h' => v = .int .i64 (k + 2 * n) ∧ ∃ ys, ys.length = xs.length ∧ Own h' (slA kLb ys a n c :: L) := by
  refine calls_laws_markLabelS _ _ _ _ ?_
  unfold M_laws_markLabelS
  have l := H.len m0
  refine ⟨UpK n fun i k' g => k' = k + 2 * i ∧ ∃ ys, ys.length = xs.length ∧ Own g (slA kLb ys a n c :: L), UpKM n, UpK.start ⟨by omega, xs, rfl, H⟩, ?_⟩
  intro g k' y hI
  obtain ⟨i, hi, rfl, rfl, ys, hys, H⟩ := hI.elim
  (refine br (fun hc => ?_) (fun hc => ?_) <;> (try simp only [decide_eq_true_eq, decide_eq_false_iff_not, beq_iff_eq, bne_iff_ne, ne_eq, Bool.not_eq_true', Bool.not_eq_false', Bool.not_eq_true, Bool.not_eq_false, beq_eq_false_iff_ne, bne_eq_false_iff_eq, Int.not_lt, Int.not_le, gt_iff_lt, ge_iff_le, Decidable.not_not] at hc))
  · have hi : i < n := by omega
    refine (markText_ok (by omega)).mono ?_
    rintro v g2 ⟨rfl, f⟩
    have H := H.ext f
    refine ⟨_, rfl, ?_⟩
    obtain ⟨b, o, pr, ci, po, rfl, _, H⟩ := H.openAt2 2 ty_impl_Label hi default
    obtain ⟨rfl, ok, H⟩ := H.p1.openLabel
    simp only [Int.toNat_natCast]
    refine ⟨b, o, rfl, by omega, by omega, ?_⟩
    refine H.stM0 (by simp) fun g3 H => ?_
    have w1 : IntKind.i64.wrap (k + 2 * (i : Int) + 1) = k + 2 * (i : Int) + 1 := wrap64_of (by omega) (by omega)
    have w2 : IntKind.i64.wrap (k + 2 * (i : Int) + 1 + 1) = k + 2 * ((i + 1 : Nat) : Int) := by rw [wrap64_of (by omega) (by omega)]; omega
    rw [w1, w2]
    refine (markText_ok (by omega)).mono ?_
    rintro v g4 ⟨rfl, f⟩
    have H := H.ext f
    refine ⟨_, rfl, ?_⟩
    refine ⟨b, o, rfl, by omega, by omega, ?_⟩
    refine H.stM (by simp) fun g5 H => ?_
    have H : Own g5 (midA b (o + i * 2) ty_impl_Label pr (LabelD.mk (mtext (k + 2 * (i : Int))) (mtext (k + 2 * (i : Int) + 1))).cells po :: restA kLb ys i (some ⟨b, o, none⟩) n c b (o + i * 2) pr po :: L) := H.to (by repeat' (first | exact trivial | exact rfl | omega | (refine ⟨?_, ?_⟩)))
    have H := Own.shutLabel (t := ty_impl_Label) (LabelD.mk (mtext (k + 2 * (i : Int))) (mtext (k + 2 * (i : Int) + 1))) trivial H
    have H := H.back b (o + i * 2)
    exact UpK.next (by omega) hi ⟨rfl, _, by simp [hys], H⟩
  · have hin : i = n := by omega
    exact ⟨by rw [hin], ys, hys, H⟩
theorem markTotalS_ok {xs : List TotalD} {a : Option Addr} {n c : Nat} {k : Int} (H : Own h (slA kTt xs a n c :: L)) (hk : 0 ≤ k) (hm : k ≤ 1) (hn : n ≤ 1048576) (hq : ∀ i, i < n → (xs.getD i default).labels.length ≤ 1048576) :
    CallsH PP fn_laws_markTotalS [.slice a n c, .int .i64 k] h fun v h' => ∃ z : Int, v = .int .i64 z ∧ 0 ≤ z ∧ Own h' L := by
  refine calls_laws_markTotalS _ _ _ _ ?_
  unfold M_laws_markTotalS
  have l := H.len m0
  refine ⟨UpK n fun i k' g => 0 ≤ k' ∧ k' ≤ k + 2097156 * i ∧ ∃ ys, ys.length = xs.length ∧ (∀ j, j < n → (ys.getD j default).labels.length ≤ 1048576) ∧ Own g (slA kTt ys a n c :: L), UpKM n, UpK.start ⟨hk, by omega, xs, rfl, hq, H⟩, ?_⟩
  intro g k' y hI
  obtain ⟨i, hi, rfl, h0, h1, ys, hys, hl, H⟩ := hI.elim
  (refine br (fun hc => ?_) (fun hc => ?_) <;> (try simp only [decide_eq_true_eq, decide_eq_false_iff_not, beq_iff_eq, bne_iff_ne, ne_eq, Bool.not_eq_true', Bool.not_eq_false', Bool.not_eq_true, Bool.not_eq_false, beq_eq_false_iff_ne, bne_eq_false_iff_eq, Int.not_lt, Int.not_le, gt_iff_lt, ge_iff_le, Decidable.not_not] at hc))
  · have hi : i < n := by omega
    have hli := hl i hi
    obtain ⟨b, o, pr, ci, po, rfl, _, H⟩ := H.openAt2 5 ty_impl_Total hi default
    obtain ⟨sa, ns, sc, rfl, hok, H⟩ := H.p1.openTotal
    have H := H.p1
    have ls := H.ln sa ns sc
    simp only [Int.toNat_natCast]
    refine ⟨b, o, rfl, by omega, by omega, ?_⟩
    (first | refine ldI (by first | assumption | exact H.ld (by rfl) | exact H.ldM (by rfl) | exact H.ldM0 (by rfl) | exact H.ldO (by assumption)) ?_ | refine ldS (by first | assumption | exact H.ld (by rfl) | exact H.ldM (by rfl) | exact H.ldM0 (by rfl) | exact H.ldO (by assumption)) ?_ | refine ldB (by first | assumption | exact H.ld (by rfl) | exact H.ldM (by rfl) | exact H.ldM0 (by rfl) | exact H.ldO (by assumption)) ?_ | refine ldT (by first | assumption | exact H.ld (by rfl) | exact H.ldM (by rfl) | exact H.ldM0 (by rfl) | exact H.ldO (by assumption)) ?_ | refine re1 (by first | assumption | exact H.ld (by rfl) | exact H.ldM (by rfl) | exact H.ldM0 (by rfl) | exact H.ldO (by assumption)) ?_ | fail)
    refine (markLabelS_ok (H.front sa ns sc) h0 (by omega)).mono ?_
    rintro v g2 ⟨rfl, zs, hzs, H⟩
    refine ⟨_, rfl, ?_⟩
    generalize hx : k' + 2 * (ns : Int) = x at *
    have w1 : IntKind.i64.wrap (x + 1) = x + 1 := wrap64_of (by omega) (by omega)
    have w2 : IntKind.i64.wrap (x + 1 + 1) = x + 2 := by rw [wrap64_of (by omega) (by omega)]; omega
    have w3 : IntKind.i64.wrap (x + 2 + 1) = x + 3 := by rw [wrap64_of (by omega) (by omega)]; omega
    have w4 : IntKind.i64.wrap (x + 3 + 1) = x + 4 := by rw [wrap64_of (by omega) (by omega)]; omega
    rw [w1, w2, w3, w4]
    refine ⟨b, o, rfl, by omega, by omega, ?_⟩
    refine H.stM (by simp) fun g3 H => ?_
    refine ⟨b, o, rfl, by omega, by omega, ?_⟩
    refine H.stM (by simp) fun g4 H => ?_
    refine ⟨b, o, rfl, by omega, by omega, ?_⟩
    refine H.stM (by simp) fun g5 H => ?_
    refine ⟨b, o, rfl, by omega, by omega, ?_⟩
    refine H.stM (by simp) fun g6 H => ?_
    have H : Own g6 (slA kLb zs sa ns sc :: midA b (o + i * 5) ty_impl_Total pr ((TotalD.mk zs x (x + 1) (x + 2) (x + 3)).cells sa ns sc) po :: restA kTt ys i (some ⟨b, o, none⟩) n c b (o + i * 5) pr po :: L) := H.to (by repeat' (first | exact trivial | exact rfl | omega | (refine ⟨?_, ?_⟩)))
    have H := Own.shutTotal (t := ty_impl_Total) (TotalD.mk zs x (x + 1) (x + 2) (x + 3)) ⟨by unfold inI64; dsimp only; omega, by unfold inI64; dsimp only; omega, by unfold inI64; dsimp only; omega, by unfold inI64; dsimp only; omega⟩ H
    have H := H.back b (o + i * 5)
    refine UpK.next (by omega) hi ⟨by omega, by omega, _, by simp [hys], fun j hj => ?_, H⟩
    by_cases hji : j = i
    · subst hji
      rw [getD_of _ (by simp; omega)]
      simp; omega
    · have := hl j hj
      rw [getD_of _ (by omega)] at this
      rw [getD_of _ (by simp; omega), List.getElem_set_ne (fun h => hji h.symm)]
      exact this
  · exact ⟨_, rfl, h0, H.drop⟩
end
end Go.Proofs.Ytjmhahjmbmiepaa.D

namespace Go.Proofs.Ytjmhahjmbmiepaa.D
open Go Go.ChangeShapes Go.WideShapes Go.ChangeAt Go.RowKit
set_option linter.unusedVariables false
set_option linter.unusedSimpArgs false
section
variable {H : Type} {enc : TypeId × Value → H} {P : Program} {W : World} {sp : Nat → Bool} {held : Bool} {d : DataW H} {ps : List MemPlace} {t e : TypeId} {a : Option Addr} {n c : Nat}
theorem add_plain (b o k : Nat) : (Addr.add ⟨b, o, none⟩ k) = ⟨b, o + k, none⟩ := by
  unfold Addr.add
  split
  · rename_i hz; rw [hz]; rfl
  · rfl
theorem rdLb_of {f0 f1 : Field} {s : TypeId} {fuel : Nat} {cs : List Value} {x : DataW H × List MemPlace} (ht : P.underlying t = some (.slice e)) (he : P.underlying e = some (.struct #[f0, f1])) (hc : P.cellsOf e = 2) (hs : P.underlying s = some .string) (hcs : P.cellsOf s = 1)
    (h0 : f0.type = s ∧ f0.offset = 0) (h1 : f1.type = s ∧ f1.offset = 1) (h : DataW.trod enc P W 0 sp held fuel t cs = some x) : ∃ a n c xs, cs = [.slice a n c] ∧ RdLb W.heap xs a n := by
  rcases DataW.trod_slice ht h with ⟨hcl, hx⟩ | ⟨a', n, cap, elems, rest, m, _, hcl, hx, _, hl, hm, hlen, hel, _⟩
  · exact ⟨none, 0, 0, [], hcl, rfl, by omega, fun i hi => by omega⟩
  · refine ⟨some a', n, cap, ?_⟩
    have each : ∀ i, i < n → ∃ c0 c1 : ByteArray, (c0.size ≤ maxLen ∧ c1.size ≤ maxLen) ∧ W.cell? ((a'.add (i * 2)).add 0) = some (.string c0) ∧ W.cell? ((a'.add (i * 2)).add 1) = some (.string c1) := by
      intro i hi
      have hE := hel i hi
      have hi2 : i < elems.length := by omega
      rw [List.getElem?_eq_getElem hi2, Option.bind_eq_some_iff] at hE
      obtain ⟨cs, hcs', hy⟩ := hE
      obtain ⟨_, hl4, hcell⟩ := World.cells?_some hcs'
      rw [hc] at hl4 hcell
      obtain ⟨ys, n', _, _, _, hys, hfs⟩ := DataW.trod_struct he hy
      match cs, hl4 with
      | [c0, c1], _ =>
        have hys : ys.length = 2 := hys
        have k0 := hfs 0 f0 rfl
        have k1 := hfs 1 f1 rfl
        rw [h0.1, h0.2, hcs, List.getElem?_eq_getElem (by omega)] at k0
        rw [h1.1, h1.2, hcs, List.getElem?_eq_getElem (by omega)] at k1
        obtain ⟨z0, e0, _, w0⟩ := DataW.trod_string hs k0
        obtain ⟨z1, e1, _, w1⟩ := DataW.trod_string hs k1
        simp at e0 e1
        subst e0 e1
        exact ⟨z0, z1, ⟨w0, w1⟩, hcell 0 (by omega), hcell 1 (by omega)⟩
    have hsp : 0 < n → a'.spot = none := fun hp => by
      obtain ⟨c0, _, _, k0, _⟩ := each 0 hp
      have := World.cell?_spot k0
      simpa [Addr.add] using this
    have step : ∀ i, i < n → ∃ x : LabelD, LbB x ∧ cellAt W.heap a'.block (a'.off + i * 2) = some (.string x.name) ∧ cellAt W.heap a'.block (a'.off + i * 2 + 1) = some (.string x.value) := by
      intro i hi
      obtain ⟨c0, c1, hz, k0, k1⟩ := each i hi
      have hs := hsp (by omega)
      obtain ⟨b, o, s⟩ := a'
      simp only at hs
      subst hs
      rw [add_plain] at k0 k1
      exact ⟨⟨c0, c1⟩, by unfold LbB; unfold maxLen at hz; dsimp only; omega, cell_at (a := ⟨b, o + i * 2, none⟩) rfl k0, cell_at (a := ⟨b, o + i * 2, none⟩) rfl k1⟩
    refine ⟨(List.range n).map fun i => if hi : i < n then (step i hi).choose else default, hcl, by simp, by unfold maxLen at hm; omega, fun i hi => ?_⟩
    have hx := (step i hi).choose_spec
    have hs := hsp (by omega)
    rw [getD_of default (by simpa using hi)]
    simp only [List.getElem_map, List.getElem_range, hi, ↓reduceDIte]
    exact ⟨a'.block, a'.off, by obtain ⟨b, o, s⟩ := a'; simp only at hs; subst hs; rfl, hx.2.1, hx.2.2, hx.1⟩
theorem rdTt_of {f0 f1 f2 f3 f4 q0 q1 : Field} {l v u s : TypeId} (ht : P.underlying t = some (.slice e)) (he : P.underlying e = some (.struct #[f0, f1, f2, f3, f4])) (hc : P.cellsOf e = 5)
    (hl : P.underlying l = some (.slice v)) (hcl : P.cellsOf l = 1) (hv : P.underlying v = some (.struct #[q0, q1])) (hcv : P.cellsOf v = 2) (hu : P.underlying u = some (.int .i64)) (hcu : P.cellsOf u = 1) (hs : P.underlying s = some .string) (hcs : P.cellsOf s = 1)
    (h0 : f0.type = l ∧ f0.offset = 0) (h1 : f1.type = u ∧ f1.offset = 1) (h2 : f2.type = u ∧ f2.offset = 2) (h3 : f3.type = u ∧ f3.offset = 3) (h4 : f4.type = u ∧ f4.offset = 4) (g0 : q0.type = s ∧ q0.offset = 0) (g1 : q1.type = s ∧ q1.offset = 1)
    (h : DataW.Trod enc P W 0 sp held t (.slice a n c) d ps) : ∃ xs, RdTt W.heap xs a n := by
  obtain ⟨fuel, hf⟩ := h
  rcases DataW.trod_slice ht hf with ⟨hcs, hx⟩ | ⟨a', len, cap, elems, rest, m, _, hcl', hx, _, hle, hm, hlen, hel, _⟩
  · simp [Value.cells] at hcs
    obtain ⟨rfl, rfl, rfl⟩ := hcs
    exact ⟨[], rfl, by omega, fun i hi => by omega⟩
  · simp [Value.cells] at hcl'
    obtain ⟨rfl, rfl, rfl⟩ := hcl'
    have each : ∀ i, i < n → ∃ (a1 : Option Addr) (n1 c1 : Nat) (ls : List LabelD) (c1' c2 c3 c4 : Int), (inI64 c1' ∧ inI64 c2 ∧ inI64 c3 ∧ inI64 c4) ∧ RdLb W.heap ls a1 n1 ∧ W.cell? ((a'.add (i * 5)).add 0) = some (.slice a1 n1 c1) ∧ W.cell? ((a'.add (i * 5)).add 1) = some (.int .i64 c1') ∧
        W.cell? ((a'.add (i * 5)).add 2) = some (.int .i64 c2) ∧ W.cell? ((a'.add (i * 5)).add 3) = some (.int .i64 c3) ∧ W.cell? ((a'.add (i * 5)).add 4) = some (.int .i64 c4) := by
      intro i hi
      have hE := hel i hi
      have hi2 : i < elems.length := by omega
      rw [List.getElem?_eq_getElem hi2, Option.bind_eq_some_iff] at hE
      obtain ⟨cs, hcs', hy⟩ := hE
      obtain ⟨_, hl4, hcell⟩ := World.cells?_some hcs'
      rw [hc] at hl4 hcell
      obtain ⟨ys, n', _, _, _, hys, hfs⟩ := DataW.trod_struct he hy
      match cs, hl4 with
      | [c0, c1, c2, c3, c4], _ =>
        have hys : ys.length = 5 := hys
        have k0 := hfs 0 f0 rfl
        have k1 := hfs 1 f1 rfl
        have k2 := hfs 2 f2 rfl
        have k3 := hfs 3 f3 rfl
        have k4 := hfs 4 f4 rfl
        rw [h0.1, h0.2, hcl, List.getElem?_eq_getElem (by omega)] at k0
        rw [h1.1, h1.2, hcu, List.getElem?_eq_getElem (by omega)] at k1
        rw [h2.1, h2.2, hcu, List.getElem?_eq_getElem (by omega)] at k2
        rw [h3.1, h3.2, hcu, List.getElem?_eq_getElem (by omega)] at k3
        rw [h4.1, h4.2, hcu, List.getElem?_eq_getElem (by omega)] at k4
        obtain ⟨a1, n1, c1', ls, e0, rl⟩ := rdLb_of hl hv hcv hs hcs g0 g1 k0
        obtain ⟨z1, e1, _, w1⟩ := DataW.trod_int hu k1
        obtain ⟨z2, e2, _, w2⟩ := DataW.trod_int hu k2
        obtain ⟨z3, e3, _, w3⟩ := DataW.trod_int hu k3
        obtain ⟨z4, e4, _, w4⟩ := DataW.trod_int hu k4
        simp at e0 e1 e2 e3 e4
        subst e0 e1 e2 e3 e4
        exact ⟨a1, n1, c1', ls, z1, z2, z3, z4, ⟨inI64_of_wf w1, inI64_of_wf w2, inI64_of_wf w3, inI64_of_wf w4⟩, rl, hcell 0 (by omega), hcell 1 (by omega), hcell 2 (by omega), hcell 3 (by omega), hcell 4 (by omega)⟩
    have hsp : 0 < n → a'.spot = none := fun hp => by
      obtain ⟨_, _, _, _, _, _, _, _, _, _, k0, _⟩ := each 0 hp
      have := World.cell?_spot k0
      simpa [Addr.add] using this
    have step : ∀ i, i < n → ∃ x : TotalD, ∃ (a1 : Option Addr) (n1 c1 : Nat), x.ok ∧ RdLb W.heap x.labels a1 n1 ∧ cellAt W.heap a'.block (a'.off + i * 5) = some (.slice a1 n1 c1) ∧ cellAt W.heap a'.block (a'.off + i * 5 + 1) = some (.int .i64 x.sum) ∧
        cellAt W.heap a'.block (a'.off + i * 5 + 2) = some (.int .i64 x.count) ∧ cellAt W.heap a'.block (a'.off + i * 5 + 3) = some (.int .i64 x.least) ∧ cellAt W.heap a'.block (a'.off + i * 5 + 4) = some (.int .i64 x.most) := by
      intro i hi
      obtain ⟨a1, n1, c1, ls, z1, z2, z3, z4, hr, rl, k0, k1, k2, k3, k4⟩ := each i hi
      have hs := hsp (by omega)
      obtain ⟨b, o, s⟩ := a'
      simp only at hs
      subst hs
      rw [add_plain] at k0 k1 k2 k3 k4
      exact ⟨⟨ls, z1, z2, z3, z4⟩, a1, n1, c1, hr, rl, cell_at (a := ⟨b, o + i * 5, none⟩) rfl k0, cell_at (a := ⟨b, o + i * 5, none⟩) rfl k1, cell_at (a := ⟨b, o + i * 5, none⟩) rfl k2, cell_at (a := ⟨b, o + i * 5, none⟩) rfl k3, cell_at (a := ⟨b, o + i * 5, none⟩) rfl k4⟩
    refine ⟨(List.range n).map fun i => if hi : i < n then (step i hi).choose else default, by simp, by unfold maxLen at hm; omega, fun i hi => ?_⟩
    obtain ⟨a1, n1, c1, hx⟩ := (step i hi).choose_spec
    have hs := hsp (by omega)
    rw [getD_of default (by simpa using hi)]
    simp only [List.getElem_map, List.getElem_range, hi, ↓reduceDIte]
    exact ⟨a'.block, a'.off, a1, n1, c1, by obtain ⟨b, o, s⟩ := a'; simp only at hs; subst hs; rfl, hx.2.2.1, hx.2.2.2.1, hx.2.2.2.2.1, hx.2.2.2.2.2.1, hx.2.2.2.2.2.2, hx.1, hx.2.1⟩
end

section
variable {h : Heap}
section
variable {L : List Asn}
theorem markIntS_own2 {xs : List Int} {a : Option Addr} {n c : Nat} {k : Int} (H : Own h (slA kI xs a n c :: L)) (hk : 0 ≤ k) (hm : k + n < 4611686018427387904) :
    CallsH PP fn_laws_markIntS [.slice a n c, .int .i64 k] h fun v h' => v = .int .i64 (k + n) ∧ Own h' (slA kI (mkI k xs) a n c :: L) := by
  obtain ⟨F, nd, s, w⟩ := H.slTurn
  refine (markIntS_ok s nd hk hm).mono ?_
  rintro v h' ⟨rfl, s', f⟩
  exact ⟨rfl, w _ _ _ _ _ _ F f s' nd fun x hx => .inl hx⟩
end
theorem FnExactTopOf_ok {xs : List TotalD} {a : Option Addr} {n c : Nat} {op many : Int} (r : RdTt h xs a n) : CallsH PP fn_laws_FnExactTopOf [.slice a n c, .int .i64 op, .int .i64 many] h fun v h' => v = .bool true ∧ Ext h h' := by
  refine calls_laws_FnExactTopOf _ _ _ _ _ ?_
  unfold M_laws_FnExactTopOf
  refine (szTotalS_ok r).mono ?_
  rintro v g0 ⟨z, rfl, f0, hz⟩
  refine ⟨_, rfl, ?_⟩
  (refine br (fun hc => ?_) (fun hc => ?_) <;> (try simp only [decide_eq_true_eq, decide_eq_false_iff_not, beq_iff_eq, bne_iff_ne, ne_eq, Bool.not_eq_true', Bool.not_eq_false', Bool.not_eq_true, Bool.not_eq_false, beq_eq_false_iff_ne, bne_eq_false_iff_eq, Int.not_lt, Int.not_le, gt_iff_lt, ge_iff_le, Decidable.not_not] at hc))
  · exact ⟨rfl, f0⟩
  obtain ⟨hn, hq⟩ := hz hc
  have hz : ∀ x ∈ xs, TtZ x := fun x hx => (hq x hx).z
  have hln := r.len
  have H := Own.start h
  have H := H.ext f0
  refine (toTotalS_ok (r.ext H.oldE) hn hq).mono ?_
  rintro v g1 ⟨a1, rfl, H1⟩
  have H := H.lift1 H1
  refine ⟨_, _, _, rfl, ?_⟩
  refine (spec_TopOf_ok (H.rd a1 n n) hz).mono ?_
  rintro v g2 ⟨a2, n2, c2, rfl, H1⟩
  have H := H.lift1 H1
  refine ⟨_, _, _, _, rfl, ?_⟩
  have H : Own g2 (slA kI (topAns xs op many).1 a2 n2 c2 :: [oldA h]) := H.to (by repeat' (first | exact trivial | exact rfl | omega | (refine ⟨?_, ?_⟩)))
  refine (toTotalS_ok (r.ext H.oldE) hn hq).mono ?_
  rintro v g3 ⟨a3, rfl, H1⟩
  have H := H.lift1 H1
  refine ⟨_, _, _, rfl, ?_⟩
  refine (impl_TopOf_ok (H.rd a3 n n) hz).mono ?_
  rintro v g4 ⟨a4, n4, c4, rfl, H1⟩
  have H := H.lift1 H1
  refine ⟨_, _, _, _, rfl, ?_⟩
  obtain ⟨F1, s1⟩ := H.rd a4 n4 c4
  obtain ⟨F2, s2⟩ := H.rd a2 n2 c2
  refine (eqIntS_ok s1 s2).mono ?_
  rintro v g5 ⟨rfl, rfl⟩
  refine ⟨_, rfl, ?_⟩
  (refine br (fun hc => ?_) (fun hc => ?_) <;> (try simp only [decide_eq_true_eq, decide_eq_false_iff_not, beq_iff_eq, bne_iff_ne, ne_eq, Bool.not_eq_true', Bool.not_eq_false', Bool.not_eq_true, Bool.not_eq_false, beq_eq_false_iff_ne, bne_eq_false_iff_eq, Int.not_lt, Int.not_le, gt_iff_lt, ge_iff_le, Decidable.not_not] at hc))
  rotate_left
  · simp at hc
  (refine br (fun hc => ?_) (fun hc => ?_) <;> (try simp only [decide_eq_true_eq, decide_eq_false_iff_not, beq_iff_eq, bne_iff_ne, ne_eq, Bool.not_eq_true', Bool.not_eq_false', Bool.not_eq_true, Bool.not_eq_false, beq_eq_false_iff_ne, bne_eq_false_iff_eq, Int.not_lt, Int.not_le, gt_iff_lt, ge_iff_le, Decidable.not_not] at hc))
  · simp at hc
  refine (toTotalS_ok (r.ext H.oldE) hn hq).mono ?_
  rintro v g6 ⟨a5, rfl, H1⟩
  have H := H.lift1 H1
  refine ⟨_, _, _, rfl, ?_⟩
  refine (eqTotalS_ok (H.rd a3 n n) (H.rd a5 n n)).mono ?_
  rintro v g7 ⟨rfl, f⟩
  have H := H.ext f
  refine ⟨_, rfl, ?_⟩
  (refine br (fun hc => ?_) (fun hc => ?_) <;> (try simp only [decide_eq_true_eq, decide_eq_false_iff_not, beq_iff_eq, bne_iff_ne, ne_eq, Bool.not_eq_true', Bool.not_eq_false', Bool.not_eq_true, Bool.not_eq_false, beq_eq_false_iff_ne, bne_eq_false_iff_eq, Int.not_lt, Int.not_le, gt_iff_lt, ge_iff_le, Decidable.not_not] at hc))
  · simp at hc
  have H : Own g7 (slA kTt xs a3 n n :: slA kI (topAns xs op many).1 a4 n4 c4 :: slA kI (topAns xs op many).1 a2 n2 c2 :: [oldA h]) := H.to (by repeat' (first | exact trivial | exact rfl | omega | (refine ⟨?_, ?_⟩)))
  refine (markTotalS_ok H (by omega) (by omega) hn (fun i hi => (memG default hq (show i < xs.length by omega)).1)).mono ?_
  rintro v g8 ⟨z8, rfl, hz8, H⟩
  refine ⟨_, rfl, ?_⟩
  (refine br (fun hc => ?_) (fun hc => ?_) <;> (try simp only [decide_eq_true_eq, decide_eq_false_iff_not, beq_iff_eq, bne_iff_ne, ne_eq, Bool.not_eq_true', Bool.not_eq_false', Bool.not_eq_true, Bool.not_eq_false, beq_eq_false_iff_ne, bne_eq_false_iff_eq, Int.not_lt, Int.not_le, gt_iff_lt, ge_iff_le, Decidable.not_not] at hc))
  rotate_left
  · omega
  obtain ⟨F1, s1⟩ := H.rd a4 n4 c4
  obtain ⟨F2, s2⟩ := H.rd a2 n2 c2
  refine (eqIntS_ok s1 s2).mono ?_
  rintro v g9 ⟨rfl, rfl⟩
  refine ⟨_, rfl, ?_⟩
  (refine br (fun hc => ?_) (fun hc => ?_) <;> (try simp only [decide_eq_true_eq, decide_eq_false_iff_not, beq_iff_eq, bne_iff_ne, ne_eq, Bool.not_eq_true', Bool.not_eq_false', Bool.not_eq_true, Bool.not_eq_false, beq_eq_false_iff_ne, bne_eq_false_iff_eq, Int.not_lt, Int.not_le, gt_iff_lt, ge_iff_le, Decidable.not_not] at hc))
  rotate_left
  · simp at hc
  (refine br (fun hc => ?_) (fun hc => ?_) <;> (try simp only [decide_eq_true_eq, decide_eq_false_iff_not, beq_iff_eq, bne_iff_ne, ne_eq, Bool.not_eq_true', Bool.not_eq_false', Bool.not_eq_true, Bool.not_eq_false, beq_eq_false_iff_ne, bne_eq_false_iff_eq, Int.not_lt, Int.not_le, gt_iff_lt, ge_iff_le, Decidable.not_not] at hc))
  · simp at hc
  have ln4 := H.ln a4 n4 c4
  refine (markIntS_own2 H (by omega) (by omega)).mono ?_
  rintro v g10 ⟨rfl, H⟩
  refine ⟨_, rfl, ?_⟩
  obtain ⟨F1, s1⟩ := H.rd a4 n4 c4
  refine (heldIntS_ok s1 (by omega) (by omega)).mono ?_
  rintro v g11 ⟨rfl, rfl⟩
  refine ⟨_, rfl, ?_⟩
  (refine br (fun hc => ?_) (fun hc => ?_) <;> (try simp only [decide_eq_true_eq, decide_eq_false_iff_not, beq_iff_eq, bne_iff_ne, ne_eq, Bool.not_eq_true', Bool.not_eq_false', Bool.not_eq_true, Bool.not_eq_false, beq_eq_false_iff_ne, bne_eq_false_iff_eq, Int.not_lt, Int.not_le, gt_iff_lt, ge_iff_le, Decidable.not_not] at hc))
  · omega
  (refine br (fun hc => ?_) (fun hc => ?_) <;> (try simp only [decide_eq_true_eq, decide_eq_false_iff_not, beq_iff_eq, bne_iff_ne, ne_eq, Bool.not_eq_true', Bool.not_eq_false', Bool.not_eq_true, Bool.not_eq_false, beq_eq_false_iff_ne, bne_eq_false_iff_eq, Int.not_lt, Int.not_le, gt_iff_lt, ge_iff_le, Decidable.not_not] at hc))
  · exact absurd trivial hc
  refine (toTotalS_ok (r.ext H.oldE) hn hq).mono ?_
  rintro v g12 ⟨a6, rfl, H1⟩
  have H := H.lift1 H1
  refine ⟨_, _, _, rfl, ?_⟩
  refine (impl_TopOf_ok (H.rd a6 n n) hz).mono ?_
  rintro v g13 ⟨a7, n7, c7, rfl, H1⟩
  have H := H.lift1 H1
  refine ⟨_, _, _, _, rfl, ?_⟩
  obtain ⟨F1, s1⟩ := H.rd a7 n7 c7
  obtain ⟨F2, s2⟩ := H.rd a2 n2 c2
  refine (eqIntS_ok s1 s2).mono ?_
  rintro v g14 ⟨rfl, rfl⟩
  refine ⟨_, rfl, ?_⟩
  (refine br (fun hc => ?_) (fun hc => ?_) <;> (try simp only [decide_eq_true_eq, decide_eq_false_iff_not, beq_iff_eq, bne_iff_ne, ne_eq, Bool.not_eq_true', Bool.not_eq_false', Bool.not_eq_true, Bool.not_eq_false, beq_eq_false_iff_ne, bne_eq_false_iff_eq, Int.not_lt, Int.not_le, gt_iff_lt, ge_iff_le, Decidable.not_not] at hc))
  rotate_left
  · simp at hc
  (refine br (fun hc => ?_) (fun hc => ?_) <;> (try simp only [decide_eq_true_eq, decide_eq_false_iff_not, beq_iff_eq, bne_iff_ne, ne_eq, Bool.not_eq_true', Bool.not_eq_false', Bool.not_eq_true, Bool.not_eq_false, beq_eq_false_iff_ne, bne_eq_false_iff_eq, Int.not_lt, Int.not_le, gt_iff_lt, ge_iff_le, Decidable.not_not] at hc))
  · simp at hc
  obtain ⟨F1, s1⟩ := H.rd a4 n4 c4
  refine (heldIntS_ok s1 (by omega) (by omega)).mono ?_
  rintro v g15 ⟨rfl, rfl⟩
  refine ⟨_, rfl, ?_⟩
  (refine br (fun hc => ?_) (fun hc => ?_) <;> (try simp only [decide_eq_true_eq, decide_eq_false_iff_not, beq_iff_eq, bne_iff_ne, ne_eq, Bool.not_eq_true', Bool.not_eq_false', Bool.not_eq_true, Bool.not_eq_false, beq_eq_false_iff_ne, bne_eq_false_iff_eq, Int.not_lt, Int.not_le, gt_iff_lt, ge_iff_le, Decidable.not_not] at hc))
  · omega
  (refine br (fun hc => ?_) (fun hc => ?_) <;> (try simp only [decide_eq_true_eq, decide_eq_false_iff_not, beq_iff_eq, bne_iff_ne, ne_eq, Bool.not_eq_true', Bool.not_eq_false', Bool.not_eq_true, Bool.not_eq_false, beq_eq_false_iff_ne, bne_eq_false_iff_eq, Int.not_lt, Int.not_le, gt_iff_lt, ge_iff_le, Decidable.not_not] at hc))
  · exact absurd trivial hc
  exact ⟨rfl, H.oldE⟩
end
end Go.Proofs.Ytjmhahjmbmiepaa.D
