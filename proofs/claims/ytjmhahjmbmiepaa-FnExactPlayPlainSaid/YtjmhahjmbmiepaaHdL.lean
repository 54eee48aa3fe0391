/- Contracts: the law's steps sized, copied, marked. -/
import Derived.Test.YtjmhahjmbmiepaaHdK
namespace Go.Proofs.Ytjmhahjmbmiepaa.D
open Go
set_option linter.unusedVariables false
set_option linter.unusedSimpArgs false

/-- The law's steps, only read. -/
structure RdHS (h : Heap) (xs : List HouseStepD) (a : Option Addr) (n : Nat) : Prop where
  len : n = xs.length
  lt : n < 9223372036854775808
  at_ : ∀ i, i < n → ∃ b o, a = some ⟨b, o, none⟩ ∧ cellAt h b (o + i * 5) = some (.int .i64 (xs.getD i default).kind) ∧ cellAt h b (o + i * 5 + 1) = some (.int .i64 (xs.getD i default).part) ∧
    cellAt h b (o + i * 5 + 2) = some (.string (xs.getD i default).what.name) ∧ cellAt h b (o + i * 5 + 3) = some (.int .i64 (xs.getD i default).what.at_) ∧ cellAt h b (o + i * 5 + 4) = some (.int .i64 (xs.getD i default).what.value) ∧
    HouseStepD.ok (xs.getD i default) ∧ (xs.getD i default).what.name.size < 9223372036854775808
theorem RdHS.ext {h h' : Heap} {xs : List HouseStepD} {a : Option Addr} {n : Nat} (r : RdHS h xs a n) (f : Ext h h') : RdHS h' xs a n :=
  ⟨r.len, r.lt, fun i hi => by
    obtain ⟨b, o, ha, h0, h1, h2, h3, h4, hr⟩ := r.at_ i hi
    exact ⟨b, o, ha, cell_frm f h0 (by simp), cell_frm f h1 (by simp), cell_frm f h2 (by simp), cell_frm f h3 (by simp), cell_frm f h4 (by simp), hr⟩⟩
theorem RdHS.nx {h : Heap} {xs : List HouseStepD} {a : Option Addr} {n i : Nat} {G : Nat → Nat → Prop} (r : RdHS h xs a n) (hi : i < n)
    (hk : ∀ b o, cellAt h b (o + i * 5) = some (.int .i64 (xs.getD i default).kind) → cellAt h b (o + i * 5 + 1) = some (.int .i64 (xs.getD i default).part) →
      cellAt h b (o + i * 5 + 2) = some (.string (xs.getD i default).what.name) → cellAt h b (o + i * 5 + 3) = some (.int .i64 (xs.getD i default).what.at_) → cellAt h b (o + i * 5 + 4) = some (.int .i64 (xs.getD i default).what.value) →
      HouseStepD.ok (xs.getD i default) → (xs.getD i default).what.name.size < 9223372036854775808 → G b o) : ∃ b o, a = some ⟨b, o, none⟩ ∧ (0 : Int) ≤ (i : Int) ∧ (i : Int) < (n : Int) ∧ G b o := by
  obtain ⟨b, o, ha, h0, h1, h2, h3, h4, hr, hs⟩ := r.at_ i hi
  exact ⟨b, o, ha, by omega, by omega, hk b o h0 h1 h2 h3 h4 hr hs⟩

section
variable {h : Heap} {L : List Asn}
/-- A whole element of a flat kind is written, at a slice whose place is known. -/
theorem Own.setFlat {α : Type} {k : Kind α} {xs : List α} {R : List Asn} {b o n c i sz : Nat} {news : List Value} {y : α} {G : Heap → Prop} (H : Own h L) [j : SlAny (some ⟨b, o, none⟩) n L c α k xs R] (hf : k.Flat) (hi : i < n) (hr : ∀ h, k.rep h y news [])
    (hk : ∀ g, Own g (slA k (xs.set i y) (some ⟨b, o, none⟩) n c :: R) → G g) (hs : k.size = sz := by rfl) :
    ∃ (e : TypeId) (c : List Value), Row h b e c ∧ o + i * sz + sz ≤ c.length ∧ ∀ g, g = putRow h b e (splice c (o + i * sz) news) → G g := by
  subst hs
  have H := H.perm j.perm
  have hl := (H.len m0).1
  obtain ⟨F, nd, s, w⟩ := H.slTurn
  obtain ⟨b', o', row, ci, Fi, ha, hb, r, hlen, hci, hsub, st⟩ := s.setElem nd (i := i) (by omega)
  injection ha with ha
  injection ha with e1 e2 _
  subst e1 e2
  have hFi := hf hci
  subst hFi
  refine ⟨k.tid, row, r, hlen, fun g hg => hk g ?_⟩
  subst hg
  exact w _ _ _ _ _ _ F (Frm.put h _ _ hb) (st news y (hr _)) nd fun x hx => .inl hx

theorem szSay_ok {s : SayD} {k : Int} (hk : 0 ≤ k ∧ k ≤ 1048576) (hs : s.name.size < 9223372036854775808) : CallsH PP fn_laws_szSay [.agg ⟨s.cells⟩, .int .i64 k] h fun v h' => ∃ r : Int, v = .int .i64 r ∧ Ext h h' ∧ r ≤ k ∧ (0 ≤ r → s.name.size ≤ 1048576) := by
  refine calls_laws_szSay _ _ _ _ ?_
  unfold M_laws_szSay
  have H := Own.start h
  repeat' (first | (first | refine ldI (by first | assumption | exact H.ld (by rfl) | exact H.ldO (by assumption)) ?_ | refine ldS (by first | assumption | exact H.ld (by rfl) | exact H.ldO (by assumption)) ?_ | refine ldB (by first | assumption | exact H.ld (by rfl) | exact H.ldO (by assumption)) ?_ | refine ldT (by first | assumption | exact H.ld (by rfl) | exact H.ldO (by assumption)) ?_ | refine re1 (by first | assumption | exact H.ld (by rfl) | exact H.ldO (by assumption)) ?_ | fail) | (refine H.nw fun g_ H => ?_) | fail)
  rw [wrap64_of (by omega) (by omega)]
  (refine br (fun hc => ?_) (fun hc => ?_) <;> (try simp only [decide_eq_true_eq, decide_eq_false_iff_not, beq_iff_eq, bne_iff_ne, ne_eq, Bool.not_eq_true', Bool.not_eq_false', Bool.not_eq_true, Bool.not_eq_false, beq_eq_false_iff_ne, bne_eq_false_iff_eq, Int.not_lt, Int.not_le, gt_iff_lt, ge_iff_le, Decidable.not_not] at hc))
  · exact ⟨_, rfl, H.oldE, by omega, by omega⟩
  · exact ⟨_, rfl, H.oldE, by omega, by omega⟩
theorem szHouseStep_ok {s : HouseStepD} {k : Int} (hk : 0 ≤ k ∧ k ≤ 1048576) (hs : s.what.name.size < 9223372036854775808) : CallsH PP fn_laws_szHouseStep [.agg ⟨s.cells⟩, .int .i64 k] h fun v h' => ∃ r : Int, v = .int .i64 r ∧ Ext h h' ∧ r ≤ k ∧ (0 ≤ r → s.what.name.size ≤ 1048576) := by
  refine calls_laws_szHouseStep _ _ _ _ _ _ ?_
  unfold M_laws_szHouseStep
  have H := Own.start h
  repeat' (first | (first | refine ldI (by first | assumption | exact H.ld (by rfl) | exact H.ldO (by assumption)) ?_ | refine ldS (by first | assumption | exact H.ld (by rfl) | exact H.ldO (by assumption)) ?_ | refine ldB (by first | assumption | exact H.ld (by rfl) | exact H.ldO (by assumption)) ?_ | refine ldT (by first | assumption | exact H.ld (by rfl) | exact H.ldO (by assumption)) ?_ | refine re1 (by first | assumption | exact H.ld (by rfl) | exact H.ldO (by assumption)) ?_ | fail) | (refine H.nw fun g_ H => ?_) | fail)
  refine (szSay_ok (s := s.what) hk hs).mono ?_
  rintro v g ⟨r, rfl, f, h1, h2⟩
  have H := H.ext f
  refine ⟨_, rfl, ?_⟩
  (refine br (fun hc => ?_) (fun hc => ?_) <;> (try simp only [decide_eq_true_eq, decide_eq_false_iff_not, beq_iff_eq, bne_iff_ne, ne_eq, Bool.not_eq_true', Bool.not_eq_false', Bool.not_eq_true, Bool.not_eq_false, beq_eq_false_iff_ne, bne_eq_false_iff_eq, Int.not_lt, Int.not_le, gt_iff_lt, ge_iff_le, Decidable.not_not] at hc))
  · exact ⟨_, rfl, H.oldE, by omega, by omega⟩
  · exact ⟨_, rfl, H.oldE, by omega, h2⟩
theorem szHouseStepS_ok {xs : List HouseStepD} {a : Option Addr} {n c : Nat} (r : RdHS h xs a n) : CallsH PP fn_laws_szHouseStepS [.slice a n c, .int .i64 1048576] h fun v h' => ∃ z : Int, v = .int .i64 z ∧ Ext h h' ∧ (0 ≤ z → n ≤ 1048576 ∧ ∀ i, i < n → (xs.getD i default).what.name.size ≤ 1048576) := by
  refine calls_laws_szHouseStepS _ _ _ _ ?_
  unfold M_laws_szHouseStepS
  have hlt := r.lt
  rw [wrap64_of (by omega) (by omega)]
  (refine br (fun hc => ?_) (fun hc => ?_) <;> (try simp only [decide_eq_true_eq, decide_eq_false_iff_not, beq_iff_eq, bne_iff_ne, ne_eq, Bool.not_eq_true', Bool.not_eq_false', Bool.not_eq_true, Bool.not_eq_false, beq_eq_false_iff_ne, bne_eq_false_iff_eq, Int.not_lt, Int.not_le, gt_iff_lt, ge_iff_le, Decidable.not_not] at hc))
  · exact ⟨_, rfl, Frm.refl _ _, by omega⟩
  · refine ⟨UpK n fun i k g => 0 ≤ k ∧ k ≤ 1048576 ∧ Own g [oldA h] ∧ ∀ j, j < i → (xs.getD j default).what.name.size ≤ 1048576, UpKM n, UpK.start ⟨by omega, by omega, Own.start h, fun j hj => by omega⟩, ?_⟩
    intro g k y hI
    obtain ⟨i, hi, rfl, hk0, hk1, H, hp⟩ := hI.elim
    (refine br (fun hc => ?_) (fun hc => ?_) <;> (try simp only [decide_eq_true_eq, decide_eq_false_iff_not, beq_iff_eq, bne_iff_ne, ne_eq, Bool.not_eq_true', Bool.not_eq_false', Bool.not_eq_true, Bool.not_eq_false, beq_eq_false_iff_ne, bne_eq_false_iff_eq, Int.not_lt, Int.not_le, gt_iff_lt, ge_iff_le, Decidable.not_not] at hc))
    · have hi : i < n := by omega
      refine r.nx hi fun b o f1 f2 f3 f4 f5 ok hs => ?_
      repeat' (first | (first | refine ldI (by first | assumption | exact H.ld (by rfl) | exact H.ldO (by assumption)) ?_ | refine ldS (by first | assumption | exact H.ld (by rfl) | exact H.ldO (by assumption)) ?_ | refine ldB (by first | assumption | exact H.ld (by rfl) | exact H.ldO (by assumption)) ?_ | refine ldT (by first | assumption | exact H.ld (by rfl) | exact H.ldO (by assumption)) ?_ | refine re1 (by first | assumption | exact H.ld (by rfl) | exact H.ldO (by assumption)) ?_ | fail) | fail)
      refine (szHouseStep_ok (s := xs.getD i default) ⟨hk0, hk1⟩ hs).mono ?_
      rintro v g2 ⟨z, rfl, f, h1, h2⟩
      have H := H.ext f
      refine ⟨_, rfl, ?_⟩
      (refine br (fun hc => ?_) (fun hc => ?_) <;> (try simp only [decide_eq_true_eq, decide_eq_false_iff_not, beq_iff_eq, bne_iff_ne, ne_eq, Bool.not_eq_true', Bool.not_eq_false', Bool.not_eq_true, Bool.not_eq_false, beq_eq_false_iff_ne, bne_eq_false_iff_eq, Int.not_lt, Int.not_le, gt_iff_lt, ge_iff_le, Decidable.not_not] at hc))
      · exact ⟨_, rfl, H.oldE, by omega⟩
      · refine UpK.next (by omega) hi ⟨hc, by omega, H, fun j hj => ?_⟩
        by_cases hji : j = i
        · rw [hji]; exact h2 hc
        · exact hp j (by omega)
    · exact ⟨_, rfl, H.oldE, fun _ => ⟨by omega, fun j hj => hp j (by omega)⟩⟩

theorem toSay_ok (s : SayD) : CallsH PP fn_laws_toSay [.agg ⟨s.cells⟩] h fun v h' => v = .agg ⟨s.cells⟩ ∧ Ext h h' := by
  refine calls_laws_toSay _ _ _ ?_
  unfold M_laws_toSay
  have H := Own.start h
  repeat' (first | (first | refine ldI (by first | assumption | exact H.ld (by rfl) | exact H.ldO (by assumption)) ?_ | refine ldS (by first | assumption | exact H.ld (by rfl) | exact H.ldO (by assumption)) ?_ | refine ldB (by first | assumption | exact H.ld (by rfl) | exact H.ldO (by assumption)) ?_ | refine ldT (by first | assumption | exact H.ld (by rfl) | exact H.ldO (by assumption)) ?_ | refine re1 (by first | assumption | exact H.ld (by rfl) | exact H.ldO (by assumption)) ?_ | fail) | (refine H.nw fun g_ H => ?_) | (first | refine H.st (by simp) fun g_ H => ?_ | refine H.sts (by simp) fun g_ H => ?_ | fail) | fail)
  exact ⟨rfl, H.oldE⟩
theorem toHouseStep_ok (s : HouseStepD) : CallsH PP fn_laws_toHouseStep [.agg ⟨s.cells⟩] h fun v h' => v = .agg ⟨s.cells⟩ ∧ Ext h h' := by
  refine calls_laws_toHouseStep _ _ _ _ _ ?_
  unfold M_laws_toHouseStep
  have H := Own.start h
  repeat' (first | (first | refine ldI (by first | assumption | exact H.ld (by rfl) | exact H.ldO (by assumption)) ?_ | refine ldS (by first | assumption | exact H.ld (by rfl) | exact H.ldO (by assumption)) ?_ | refine ldB (by first | assumption | exact H.ld (by rfl) | exact H.ldO (by assumption)) ?_ | refine ldT (by first | assumption | exact H.ld (by rfl) | exact H.ldO (by assumption)) ?_ | refine re1 (by first | assumption | exact H.ld (by rfl) | exact H.ldO (by assumption)) ?_ | fail) | (refine H.nw fun g_ H => ?_) | (first | refine H.st (by simp) fun g_ H => ?_ | refine H.sts (by simp) fun g_ H => ?_ | fail) | (refine (toSay_ok s.what).mono ?_; rintro v_ g_ ⟨rfl, f⟩; have H := H.ext f; refine ⟨_, _, _, rfl, ?_⟩) | fail)
  exact ⟨rfl, H.oldE⟩
theorem fillSet {α : Type} {xs : List α} {n i : Nat} (d : α) (hn : n = xs.length) (hi : i < n) : (xs.take i ++ List.replicate (n - i) d).set i (xs.getD i d) = xs.take (i + 1) ++ List.replicate (n - (i + 1)) d := by
  rw [List.set_append_right _ _ (by simp; omega), ← takeSnoc d (by omega), List.append_assoc]
  congr 1
  rw [show i - (xs.take i).length = 0 from by simp; omega, show n - i = (n - (i + 1)) + 1 by omega, List.replicate_succ, List.set_cons_zero]
  rfl
theorem repHS (h : Heap) : kHS.rep h default [.int .i64 0, .int .i64 0, .string ByteArray.empty, .int .i64 0, .int .i64 0] [] := ⟨rfl, rfl, by simp [HouseStepD.ok, inI64, default, instInhabitedHouseStepD.default, instInhabitedSayD.default]⟩
theorem toHouseStepS_ok {xs : List HouseStepD} {a : Option Addr} {n c : Nat} (r : RdHS h xs a n) (hn : n ≤ 1048576) : CallsH PP fn_laws_toHouseStepS [.slice a n c] h fun v h' => ∃ a', v = .slice a' n n ∧ Own h' [slA kHS xs a' n n, oldA h] := by
  refine calls_laws_toHouseStepS _ _ _ ?_
  unfold M_laws_toHouseStepS
  have hl := r.len
  have H := Own.start h
  refine ⟨by omega, by omega, by omega, by omega, ?_⟩
  intro h2 e2
  have H := (H.made kHS default (fun g => repHS g) (m := n) (by omega)).at e2
  refine ⟨UpI n fun i g => Own g [slA kHS (xs.take i ++ List.replicate (n - i) default) (some ⟨h.size, 0, none⟩) n n, oldA h], UpM n, UpI.start (by simpa using H), ?_⟩
  intro g y hI
  obtain ⟨i, hi, rfl, H⟩ := hI.elim
  (refine br (fun hc => ?_) (fun hc => ?_) <;> (try simp only [decide_eq_true_eq, decide_eq_false_iff_not, beq_iff_eq, bne_iff_ne, ne_eq, Bool.not_eq_true', Bool.not_eq_false', Bool.not_eq_true, Bool.not_eq_false, beq_eq_false_iff_ne, bne_eq_false_iff_eq, Int.not_lt, Int.not_le, gt_iff_lt, ge_iff_le, Decidable.not_not] at hc))
  · have hi : i < n := by omega
    refine r.nx hi fun b o f1 f2 f3 f4 f5 ok hs => ?_
    repeat' (first | (first | refine ldI (by first | assumption | exact H.ld (by rfl) | exact H.ldO (by assumption)) ?_ | refine ldS (by first | assumption | exact H.ld (by rfl) | exact H.ldO (by assumption)) ?_ | refine ldB (by first | assumption | exact H.ld (by rfl) | exact H.ldO (by assumption)) ?_ | refine ldT (by first | assumption | exact H.ld (by rfl) | exact H.ldO (by assumption)) ?_ | refine re1 (by first | assumption | exact H.ld (by rfl) | exact H.ldO (by assumption)) ?_ | fail) | fail)
    refine (toHouseStep_ok (xs.getD i default)).mono ?_
    rintro v g2 ⟨rfl, f⟩
    have H := H.ext f
    refine ⟨_, _, _, _, _, rfl, by omega, by omega, ?_⟩
    simp only [Int.toNat_natCast]
    refine H.setFlat (y := xs.getD i default) (flatHouseStep _) hi (fun h => ⟨rfl, rfl, ok⟩) fun g3 H => ?_
    rw [fillSet default hl hi] at H
    exact UpI.next (by omega) hi H
  · have hin : i = n := by omega
    rw [hin, List.take_of_length_le (by omega), Nat.sub_self, List.replicate_zero, List.append_nil] at H
    exact ⟨_, rfl, H⟩
theorem markHouseStepS_ok {xs : List HouseStepD} {a : Option Addr} {n c : Nat} {k : Int} (H : Own h (slA kHS xs a n c :: L)) (hk : 0 ≤ k) (hm : k + 5 * n < 4611686018427387904) :
    CallsH PP fn_laws_markHouseStepS [.slice a n c, .int .i64 k] h fun v h' => v = .int .i64 (k + 5 * n) ∧ Own h' L := by
  refine calls_laws_markHouseStepS _ _ _ _ ?_
  unfold M_laws_markHouseStepS
  obtain ⟨hn, hc, hm2, hs⟩ := H.slOpen
  rcases hs with ⟨rfl, rfl, H0⟩ | ⟨b, pre, cs, post, rfl, hp, H⟩
  · have hn0 : n = 0 := by omega
    subst hn0
    refine ⟨UpK 0 fun i k' g => k' = k ∧ Own g L, UpKM 0, UpK.start ⟨rfl, H0⟩, ?_⟩
    intro g k' y hI
    obtain ⟨i, hi, rfl, rfl, H⟩ := hI.elim
    (refine br (fun hc => ?_) (fun hc => ?_) <;> (try simp only [decide_eq_true_eq, decide_eq_false_iff_not, beq_iff_eq, bne_iff_ne, ne_eq, Bool.not_eq_true', Bool.not_eq_false', Bool.not_eq_true, Bool.not_eq_false, beq_eq_false_iff_ne, bne_eq_false_iff_eq, Int.not_lt, Int.not_le, gt_iff_lt, ge_iff_le, Decidable.not_not] at hc))
    · omega
    · exact ⟨by congr 1; omega, H⟩
  · have hl := H.p1.elsLen
    have hl : cs.length = n * 5 := by rw [hl, ← hn]; rfl
    refine ⟨UpK n fun i k' g => k' = k + 5 * i ∧ ∃ (row : List Value), row.length = pre.length + n * 5 + post.length ∧ Own g (rowA b ty_impl_HouseStep row :: L), UpKM n, UpK.start ⟨by omega, _, by simp; omega, H.r1⟩, ?_⟩
    intro g k' y hI
    obtain ⟨i, hi, rfl, rfl, row, hrow, H⟩ := hI.elim
    (refine br (fun hc => ?_) (fun hc => ?_) <;> (try simp only [decide_eq_true_eq, decide_eq_false_iff_not, beq_iff_eq, bne_iff_ne, ne_eq, Bool.not_eq_true', Bool.not_eq_false', Bool.not_eq_true, Bool.not_eq_false, beq_eq_false_iff_ne, bne_eq_false_iff_eq, Int.not_lt, Int.not_le, gt_iff_lt, ge_iff_le, Decidable.not_not] at hc))
    · have hi : i < n := by omega
      have w1 : IntKind.i64.wrap (k + 5 * (i : Int) + 1) = k + 5 * (i : Int) + 1 := wrap64_of (by omega) (by omega)
      have w2 : IntKind.i64.wrap (k + 5 * (i : Int) + 1 + 1) = k + 5 * (i : Int) + 2 := by rw [wrap64_of (by omega) (by omega)]; omega
      have w3 : IntKind.i64.wrap (k + 5 * (i : Int) + 2 + 1) = k + 5 * (i : Int) + 3 := by rw [wrap64_of (by omega) (by omega)]; omega
      have w4 : IntKind.i64.wrap (k + 5 * (i : Int) + 3 + 1) = k + 5 * (i : Int) + 4 := by rw [wrap64_of (by omega) (by omega)]; omega
      have w5 : IntKind.i64.wrap (k + 5 * (i : Int) + 4 + 1) = k + 5 * ((i + 1 : Nat) : Int) := by rw [wrap64_of (by omega) (by omega)]; omega
      rw [w1, w2, w3, w4, w5]
      simp only [Int.toNat_natCast]
      refine ⟨b, pre.length, rfl, by omega, by omega, ?_⟩
      refine H.st (by omega) fun g2 H => ?_
      refine ⟨b, pre.length, rfl, by omega, by omega, ?_⟩
      refine H.st (by simp; omega) fun g3 H => ?_
      refine (markText_ok (by omega)).mono ?_
      rintro v g4 ⟨rfl, f⟩
      have H := H.ext f
      refine ⟨_, rfl, ?_⟩
      refine ⟨b, pre.length, rfl, by omega, by omega, ?_⟩
      refine H.st (by simp; omega) fun g5 H => ?_
      refine ⟨b, pre.length, rfl, by omega, by omega, ?_⟩
      refine H.st (by simp; omega) fun g6 H => ?_
      refine ⟨b, pre.length, rfl, by omega, by omega, ?_⟩
      refine H.st (by simp; omega) fun g7 H => ?_
      exact UpK.next (by omega) hi ⟨rfl, _, by simpa using hrow, H⟩
    · have hin : i = n := by omega
      exact ⟨by rw [hin], H.drop⟩
end
end Go.Proofs.Ytjmhahjmbmiepaa.D
