/- Contracts: a measurement taken by the program's head. -/
import Derived.Test.YtjmhahjmbmiepaaHdE
namespace Go.Proofs.Ytjmhahjmbmiepaa.D
open Go
set_option linter.unusedVariables false
set_option linter.unusedSimpArgs false

section
variable {h : Heap} {L : List Asn}
theorem putSample_empty {l : List SampleD} {s : SayD} (h : ¬ 0 < l.length) : putSample l s = (l ++ [⟨s.at_, s.value⟩], 1) := by unfold putSample; rw [if_neg h]
theorem take_ok {x : HeadD} {s : SayD} {b0 o0 : Nat} {e0 : TypeId} {pre post : List Value} {a : Option Addr} {n c : Nat} (w : WfH x) (hs : s.ok) (ho : 0 ≤ x.offset ∧ x.offset ≤ 1000000)
    (H : Own h (midA b0 o0 e0 pre [.slice a n c, .int .i64 x.offset] post :: slA kRw x.rows a n c :: L)) :
    CallsH PP fn_impl_Head_take [.pointer (some ⟨b0, o0, none⟩), .agg ⟨s.cells⟩] h fun v h' => v = .int .i64 (takeH x s).2 ∧ ∃ a' n' c', Own h' (midA b0 o0 e0 pre [.slice a' n' c', .int .i64 (takeH x s).1.offset] post :: slA kRw (takeH x s).1.rows a' n' c' :: L) := by
  refine calls_impl_Head_take _ _ _ _ _ ?_
  unfold M_impl_Head_take
  rw [takeH_offset]
  have e1 : IntKind.i64.wrap (x.offset + 1) = x.offset + 1 := wrap64_of (by omega) (by omega)
  obtain ⟨hn, hc0, hm⟩ := H.ln a n c
  have hfew := w.few
  refine H.nw fun h4 H => ?_
  (first | refine ldI (by first | assumption | exact H.ld (by rfl) | exact H.ldM (by rfl) | exact H.ldM0 (by rfl) | exact H.ldO (by assumption)) ?_ | refine ldS (by first | assumption | exact H.ld (by rfl) | exact H.ldM (by rfl) | exact H.ldM0 (by rfl) | exact H.ldO (by assumption)) ?_ | refine ldB (by first | assumption | exact H.ld (by rfl) | exact H.ldM (by rfl) | exact H.ldM0 (by rfl) | exact H.ldO (by assumption)) ?_ | refine ldT (by first | assumption | exact H.ld (by rfl) | exact H.ldM (by rfl) | exact H.ldM0 (by rfl) | exact H.ldO (by assumption)) ?_ | refine re1 (by first | assumption | exact H.ld (by rfl) | exact H.ldM (by rfl) | exact H.ldM0 (by rfl) | exact H.ldO (by assumption)) ?_ | fail)
  rw [e1]
  refine H.stM (by simp) fun h7 H => ?_
  (first | refine ldI (by first | assumption | exact H.ld (by rfl) | exact H.ldM (by rfl) | exact H.ldM0 (by rfl) | exact H.ldO (by assumption)) ?_ | refine ldS (by first | assumption | exact H.ld (by rfl) | exact H.ldM (by rfl) | exact H.ldM0 (by rfl) | exact H.ldO (by assumption)) ?_ | refine ldB (by first | assumption | exact H.ld (by rfl) | exact H.ldM (by rfl) | exact H.ldM0 (by rfl) | exact H.ldO (by assumption)) ?_ | refine ldT (by first | assumption | exact H.ld (by rfl) | exact H.ldM (by rfl) | exact H.ldM0 (by rfl) | exact H.ldO (by assumption)) ?_ | refine re1 (by first | assumption | exact H.ld (by rfl) | exact H.ldM (by rfl) | exact H.ldM0 (by rfl) | exact H.ldO (by assumption)) ?_ | fail)
  refine (find_ok (H.ldM0 (by rfl)) (H.rd a n c) w s.name).mono ?_
  rintro v h9 ⟨rfl, f⟩
  have H := H.ext f
  refine ⟨_, _, rfl, ?_⟩
  intro K12 hK12
  have hkle := posD_le x.rows s.name
  have fin : ∀ (g : Heap) (rows : List RowD) (a' : Option Addr) (n' c' : Nat), posD x.rows s.name < n' → (rows.getD (posD x.rows s.name) default).name = s.name → (rows.getD (posD x.rows s.name) default).samples.length ≤ 40 →
      takeH x s = (⟨rows.set (posD x.rows s.name) ⟨s.name, (putSample (rows.getD (posD x.rows s.name) default).samples s).1⟩, x.offset + 1⟩, (putSample (rows.getD (posD x.rows s.name) default).samples s).2) →
      Own g (midA b0 o0 e0 pre [.slice a' n' c', .int .i64 (x.offset + 1)] post :: slA kRw rows a' n' c' :: rowA h.size ty_impl_Say [.string s.name, .int .i64 s.at_, .int .i64 s.value] :: L) → K12 [] g := by
    intro g rows a' n' c' hk hnm h40 hT H
    apply hK12
    generalize posD x.rows s.name = k at *
    (first | refine ldI (by first | assumption | exact H.ld (by rfl) | exact H.ldM (by rfl) | exact H.ldM0 (by rfl) | exact H.ldO (by assumption)) ?_ | refine ldS (by first | assumption | exact H.ld (by rfl) | exact H.ldM (by rfl) | exact H.ldM0 (by rfl) | exact H.ldO (by assumption)) ?_ | refine ldB (by first | assumption | exact H.ld (by rfl) | exact H.ldM (by rfl) | exact H.ldM0 (by rfl) | exact H.ldO (by assumption)) ?_ | refine ldT (by first | assumption | exact H.ld (by rfl) | exact H.ldM (by rfl) | exact H.ldM0 (by rfl) | exact H.ldO (by assumption)) ?_ | refine re1 (by first | assumption | exact H.ld (by rfl) | exact H.ldM (by rfl) | exact H.ldM0 (by rfl) | exact H.ldO (by assumption)) ?_ | fail)
    obtain ⟨b, o, pr, ci, po, rfl, hci, H⟩ := (H.front a' n' c').openAt2 2 ty_impl_Row hk default
    obtain ⟨sa, ns, sc, rfl, hok, H⟩ := H.p1.openRow
    have H := H.p1
    simp only [Int.toNat_natCast]
    refine ⟨b, o, rfl, by omega, by omega, ?_⟩
    have ls := H.ln sa ns sc
    have rs := H.rd sa ns sc
    -- the element goes back, whatever it holds
    have back : ∀ (g : Heap) (ss : List SampleD) (sa' : Option Addr) (ns' sc' : Nat), (putSample (rows.getD k default).samples s).1 = ss →
        Own g (slA kSm ss sa' ns' sc' :: midA b (o + k * 2) ty_impl_Row pr [.string (rows.getD k default).name, .slice sa' ns' sc'] po :: restA kRw rows k (some ⟨b, o, none⟩) n' c' b (o + k * 2) pr po :: midA b0 o0 e0 pre [.slice (some ⟨b, o, none⟩) n' c', .int .i64 (x.offset + 1)] post :: L) →
        ∃ a2 n2 c2, Own g (midA b0 o0 e0 pre [.slice a2 n2 c2, .int .i64 (x.offset + 1)] post :: slA kRw (takeH x s).1.rows a2 n2 c2 :: L) := by
      intro g ss sa' ns' sc' hss H
      have H := Own.shutRow (t := ty_impl_Row) (RowD.mk s.name ss) trivial H
      rw [hnm] at H
      have H := H.back b (o + k * 2)
      rw [hT, hss]
      exact ⟨some ⟨b, o, none⟩, n', c', H.to (by repeat' (first | exact trivial | exact rfl | omega | (refine ⟨?_, ?_⟩)))⟩
    intro K15 hK15
    have app : (putSample (rows.getD k default).samples s) = ((rows.getD k default).samples ++ [⟨s.at_, s.value⟩], 1) → K15 [] g := by
      intro hp
      apply hK15
      repeat' (first | (first | refine ldI (by first | assumption | exact H.ld (by rfl) | exact H.ldM (by rfl) | exact H.ldM0 (by rfl) | exact H.ldO (by assumption)) ?_ | refine ldS (by first | assumption | exact H.ld (by rfl) | exact H.ldM (by rfl) | exact H.ldM0 (by rfl) | exact H.ldO (by assumption)) ?_ | refine ldB (by first | assumption | exact H.ld (by rfl) | exact H.ldM (by rfl) | exact H.ldM0 (by rfl) | exact H.ldO (by assumption)) ?_ | refine ldT (by first | assumption | exact H.ld (by rfl) | exact H.ldM (by rfl) | exact H.ldM0 (by rfl) | exact H.ldO (by assumption)) ?_ | refine re1 (by first | assumption | exact H.ld (by rfl) | exact H.ldM (by rfl) | exact H.ldM0 (by rfl) | exact H.ldO (by assumption)) ?_ | fail) | (refine H.nw fun g_ H => ?_) | fail)
      refine H.ap1 (y := SampleD.mk s.at_ s.value) (by exact ⟨rfl, rfl, hs.1, hs.2⟩) (by omega) fun a2 c2 g2 H => ?_
      refine H.stM (by simp) fun g3 H => ?_
      refine ⟨by rw [hT, hp], back _ _ a2 (ns + 1) c2 (by rw [hp]) (H.to (by repeat' (first | exact trivial | exact rfl | omega | (refine ⟨?_, ?_⟩))))⟩
    (first | refine ldI (by first | assumption | exact H.ld (by rfl) | exact H.ldM (by rfl) | exact H.ldM0 (by rfl) | exact H.ldO (by assumption)) ?_ | refine ldS (by first | assumption | exact H.ld (by rfl) | exact H.ldM (by rfl) | exact H.ldM0 (by rfl) | exact H.ldO (by assumption)) ?_ | refine ldB (by first | assumption | exact H.ld (by rfl) | exact H.ldM (by rfl) | exact H.ldM0 (by rfl) | exact H.ldO (by assumption)) ?_ | refine ldT (by first | assumption | exact H.ld (by rfl) | exact H.ldM (by rfl) | exact H.ldM0 (by rfl) | exact H.ldO (by assumption)) ?_ | refine re1 (by first | assumption | exact H.ld (by rfl) | exact H.ldM (by rfl) | exact H.ldM0 (by rfl) | exact H.ldO (by assumption)) ?_ | fail)
    (refine br (fun hc => ?_) (fun hc => ?_) <;> (try simp only [decide_eq_true_eq, decide_eq_false_iff_not, beq_iff_eq, bne_iff_ne, ne_eq, Bool.not_eq_true', Bool.not_eq_false', Bool.not_eq_true, Bool.not_eq_false, beq_eq_false_iff_ne, bne_eq_false_iff_eq, Int.not_lt, Int.not_le, gt_iff_lt, ge_iff_le, Decidable.not_not] at hc))
    · (first | refine ldI (by first | assumption | exact H.ld (by rfl) | exact H.ldM (by rfl) | exact H.ldM0 (by rfl) | exact H.ldO (by assumption)) ?_ | refine ldS (by first | assumption | exact H.ld (by rfl) | exact H.ldM (by rfl) | exact H.ldM0 (by rfl) | exact H.ldO (by assumption)) ?_ | refine ldB (by first | assumption | exact H.ld (by rfl) | exact H.ldM (by rfl) | exact H.ldM0 (by rfl) | exact H.ldO (by assumption)) ?_ | refine ldT (by first | assumption | exact H.ld (by rfl) | exact H.ldM (by rfl) | exact H.ldM0 (by rfl) | exact H.ldO (by assumption)) ?_ | refine re1 (by first | assumption | exact H.ld (by rfl) | exact H.ldM (by rfl) | exact H.ldM0 (by rfl) | exact H.ldO (by assumption)) ?_ | fail)
      have hw : IntKind.i64.wrap ((ns : Int) - 1) = ((ns - 1 : Nat) : Int) := by rw [wrap64_of (by omega) (by omega)]; omega
      rw [hw]
      refine rs.nxSample (i := ns - 1) (by omega) fun b2 o2 f1 f2 _ => ?_
      simp only [Int.toNat_natCast]
      have hget : (rows.getD k default).samples.getD (ns - 1) default = (rows.getD k default).samples.getD ((rows.getD k default).samples.length - 1) default := by rw [ls.1]
      rw [hget] at f1
      have hpos : 0 < (rows.getD k default).samples.length := by omega
      (first | refine ldI (by first | assumption | exact H.ld (by rfl) | exact H.ldM (by rfl) | exact H.ldM0 (by rfl) | exact H.ldO (by assumption)) ?_ | refine ldS (by first | assumption | exact H.ld (by rfl) | exact H.ldM (by rfl) | exact H.ldM0 (by rfl) | exact H.ldO (by assumption)) ?_ | refine ldB (by first | assumption | exact H.ld (by rfl) | exact H.ldM (by rfl) | exact H.ldM0 (by rfl) | exact H.ldO (by assumption)) ?_ | refine ldT (by first | assumption | exact H.ld (by rfl) | exact H.ldM (by rfl) | exact H.ldM0 (by rfl) | exact H.ldO (by assumption)) ?_ | refine re1 (by first | assumption | exact H.ld (by rfl) | exact H.ldM (by rfl) | exact H.ldM0 (by rfl) | exact H.ldO (by assumption)) ?_ | fail)
      (first | refine ldI (by first | assumption | exact H.ld (by rfl) | exact H.ldM (by rfl) | exact H.ldM0 (by rfl) | exact H.ldO (by assumption)) ?_ | refine ldS (by first | assumption | exact H.ld (by rfl) | exact H.ldM (by rfl) | exact H.ldM0 (by rfl) | exact H.ldO (by assumption)) ?_ | refine ldB (by first | assumption | exact H.ld (by rfl) | exact H.ldM (by rfl) | exact H.ldM0 (by rfl) | exact H.ldO (by assumption)) ?_ | refine ldT (by first | assumption | exact H.ld (by rfl) | exact H.ldM (by rfl) | exact H.ldM0 (by rfl) | exact H.ldO (by assumption)) ?_ | refine re1 (by first | assumption | exact H.ld (by rfl) | exact H.ldM (by rfl) | exact H.ldM0 (by rfl) | exact H.ldO (by assumption)) ?_ | fail)
      (refine br (fun hc => ?_) (fun hc => ?_) <;> (try simp only [decide_eq_true_eq, decide_eq_false_iff_not, beq_iff_eq, bne_iff_ne, ne_eq, Bool.not_eq_true', Bool.not_eq_false', Bool.not_eq_true, Bool.not_eq_false, beq_eq_false_iff_ne, bne_eq_false_iff_eq, Int.not_lt, Int.not_le, gt_iff_lt, ge_iff_le, Decidable.not_not] at hc))
      · have hp : putSample (rows.getD k default).samples s = ((rows.getD k default).samples, 2) := by unfold putSample; rw [if_pos hpos, if_pos hc]
        exact ⟨by rw [hT, hp], back _ _ sa ns sc (by rw [hp]) (H.to (by repeat' (first | exact trivial | exact rfl | omega | (refine ⟨?_, ?_⟩))))⟩
      · have h1 := hc
        (first | refine ldI (by first | assumption | exact H.ld (by rfl) | exact H.ldM (by rfl) | exact H.ldM0 (by rfl) | exact H.ldO (by assumption)) ?_ | refine ldS (by first | assumption | exact H.ld (by rfl) | exact H.ldM (by rfl) | exact H.ldM0 (by rfl) | exact H.ldO (by assumption)) ?_ | refine ldB (by first | assumption | exact H.ld (by rfl) | exact H.ldM (by rfl) | exact H.ldM0 (by rfl) | exact H.ldO (by assumption)) ?_ | refine ldT (by first | assumption | exact H.ld (by rfl) | exact H.ldM (by rfl) | exact H.ldM0 (by rfl) | exact H.ldO (by assumption)) ?_ | refine re1 (by first | assumption | exact H.ld (by rfl) | exact H.ldM (by rfl) | exact H.ldM0 (by rfl) | exact H.ldO (by assumption)) ?_ | fail)
        (refine br (fun hc => ?_) (fun hc => ?_) <;> (try simp only [decide_eq_true_eq, decide_eq_false_iff_not, beq_iff_eq, bne_iff_ne, ne_eq, Bool.not_eq_true', Bool.not_eq_false', Bool.not_eq_true, Bool.not_eq_false, beq_eq_false_iff_ne, bne_eq_false_iff_eq, Int.not_lt, Int.not_le, gt_iff_lt, ge_iff_le, Decidable.not_not] at hc))
        · have hp : putSample (rows.getD k default).samples s = ((rows.getD k default).samples, 3) := by unfold putSample; rw [if_pos hpos, if_neg h1, if_pos hc]
          exact ⟨by rw [hT, hp], back _ _ sa ns sc (by rw [hp]) (H.to (by repeat' (first | exact trivial | exact rfl | omega | (refine ⟨?_, ?_⟩))))⟩
        · have h2 : ¬ ((rows.getD k default).samples.getD ((rows.getD k default).samples.length - 1) default).at_ > s.at_ := by omega
          (refine br (fun hc => ?_) (fun hc => ?_) <;> (try simp only [decide_eq_true_eq, decide_eq_false_iff_not, beq_iff_eq, bne_iff_ne, ne_eq, Bool.not_eq_true', Bool.not_eq_false', Bool.not_eq_true, Bool.not_eq_false, beq_eq_false_iff_ne, bne_eq_false_iff_eq, Int.not_lt, Int.not_le, gt_iff_lt, ge_iff_le, Decidable.not_not] at hc))
          · have hp : putSample (rows.getD k default).samples s = ((rows.getD k default).samples, 4) := by unfold putSample; rw [if_pos hpos, if_neg h1, if_neg h2, if_pos (by omega)]
            exact ⟨by rw [hT, hp], back _ _ sa ns sc (by rw [hp]) (H.to (by repeat' (first | exact trivial | exact rfl | omega | (refine ⟨?_, ?_⟩))))⟩
          · refine app ?_
            unfold putSample; rw [if_pos hpos, if_neg h1, if_neg h2, if_neg (by omega)]
    · exact app (putSample_empty (by omega))
  (refine br (fun hc => ?_) (fun hc => ?_) <;> (try simp only [decide_eq_true_eq, decide_eq_false_iff_not, beq_iff_eq, bne_iff_ne, ne_eq, Bool.not_eq_true', Bool.not_eq_false', Bool.not_eq_true, Bool.not_eq_false, beq_eq_false_iff_ne, bne_eq_false_iff_eq, Int.not_lt, Int.not_le, gt_iff_lt, ge_iff_le, Decidable.not_not] at hc))
  · have hnf : ¬ (posD x.rows s.name < x.rows.length ∧ (x.rows.getD (posD x.rows s.name) default).name = s.name) := by rw [← hn]; simpa using hc
    (first | refine ldI (by first | assumption | exact H.ld (by rfl) | exact H.ldM (by rfl) | exact H.ldM0 (by rfl) | exact H.ldO (by assumption)) ?_ | refine ldS (by first | assumption | exact H.ld (by rfl) | exact H.ldM (by rfl) | exact H.ldM0 (by rfl) | exact H.ldO (by assumption)) ?_ | refine ldB (by first | assumption | exact H.ld (by rfl) | exact H.ldM (by rfl) | exact H.ldM0 (by rfl) | exact H.ldO (by assumption)) ?_ | refine ldT (by first | assumption | exact H.ld (by rfl) | exact H.ldM (by rfl) | exact H.ldM0 (by rfl) | exact H.ldO (by assumption)) ?_ | refine re1 (by first | assumption | exact H.ld (by rfl) | exact H.ldM (by rfl) | exact H.ldM0 (by rfl) | exact H.ldO (by assumption)) ?_ | fail)
    (refine br (fun hc => ?_) (fun hc => ?_) <;> (try simp only [decide_eq_true_eq, decide_eq_false_iff_not, beq_iff_eq, bne_iff_ne, ne_eq, Bool.not_eq_true', Bool.not_eq_false', Bool.not_eq_true, Bool.not_eq_false, beq_eq_false_iff_ne, bne_eq_false_iff_eq, Int.not_lt, Int.not_le, gt_iff_lt, ge_iff_le, Decidable.not_not] at hc))
    · have hT : takeH x s = (⟨x.rows, x.offset + 1⟩, 4) := by unfold takeH; rw [if_neg hnf, if_pos (by omega)]
      rw [hT]
      exact ⟨rfl, a, n, c, H.to (by repeat' (first | exact trivial | exact rfl | omega | (refine ⟨?_, ?_⟩)))⟩
    · (first | refine ldI (by first | assumption | exact H.ld (by rfl) | exact H.ldM (by rfl) | exact H.ldM0 (by rfl) | exact H.ldO (by assumption)) ?_ | refine ldS (by first | assumption | exact H.ld (by rfl) | exact H.ldM (by rfl) | exact H.ldM0 (by rfl) | exact H.ldO (by assumption)) ?_ | refine ldB (by first | assumption | exact H.ld (by rfl) | exact H.ldM (by rfl) | exact H.ldM0 (by rfl) | exact H.ldO (by assumption)) ?_ | refine ldT (by first | assumption | exact H.ld (by rfl) | exact H.ldM (by rfl) | exact H.ldM0 (by rfl) | exact H.ldO (by assumption)) ?_ | refine re1 (by first | assumption | exact H.ld (by rfl) | exact H.ldM (by rfl) | exact H.ldM0 (by rfl) | exact H.ldO (by assumption)) ?_ | fail)
      (first | refine ldI (by first | assumption | exact H.ld (by rfl) | exact H.ldM (by rfl) | exact H.ldM0 (by rfl) | exact H.ldO (by assumption)) ?_ | refine ldS (by first | assumption | exact H.ld (by rfl) | exact H.ldM (by rfl) | exact H.ldM0 (by rfl) | exact H.ldO (by assumption)) ?_ | refine ldB (by first | assumption | exact H.ld (by rfl) | exact H.ldM (by rfl) | exact H.ldM0 (by rfl) | exact H.ldO (by assumption)) ?_ | refine ldT (by first | assumption | exact H.ld (by rfl) | exact H.ldM (by rfl) | exact H.ldM0 (by rfl) | exact H.ldO (by assumption)) ?_ | refine re1 (by first | assumption | exact H.ld (by rfl) | exact H.ldM (by rfl) | exact H.ldM0 (by rfl) | exact H.ldO (by assumption)) ?_ | fail)
      refine H.nw fun h32 H => ?_
      (first | refine ldI (by first | assumption | exact H.ld (by rfl) | exact H.ldM (by rfl) | exact H.ldM0 (by rfl) | exact H.ldO (by assumption)) ?_ | refine ldS (by first | assumption | exact H.ld (by rfl) | exact H.ldM (by rfl) | exact H.ldM0 (by rfl) | exact H.ldO (by assumption)) ?_ | refine ldB (by first | assumption | exact H.ld (by rfl) | exact H.ldM (by rfl) | exact H.ldM0 (by rfl) | exact H.ldO (by assumption)) ?_ | refine ldT (by first | assumption | exact H.ld (by rfl) | exact H.ldM (by rfl) | exact H.ldM0 (by rfl) | exact H.ldO (by assumption)) ?_ | refine re1 (by first | assumption | exact H.ld (by rfl) | exact H.ldM (by rfl) | exact H.ldM0 (by rfl) | exact H.ldO (by assumption)) ?_ | fail)
      have H := (H.slNil kSm)
      have H := Own.shutRow (t := ty_impl_Row) (RowD.mk s.name []) trivial H
      have H : Own h32 (slA kRw x.rows a n c :: elA kRw (RowD.mk s.name []) [.string s.name, .slice none 0 0] :: rowA h9.size ty_impl_Row [.string s.name, .slice none 0 0] :: midA b0 o0 e0 pre [.slice a n c, .int .i64 (x.offset + 1)] post :: rowA h.size ty_impl_Say [.string s.name, .int .i64 s.at_, .int .i64 s.value] :: L) := by
        exact H.to (by repeat' (first | exact trivial | exact rfl | omega | (refine ⟨?_, ?_⟩)))
      refine (InsertRow_ok H (by omega) (by omega)).mono ?_
      rintro v h33 ⟨a', c', rfl, H⟩
      refine ⟨_, _, _, rfl, ?_⟩
      refine H.stM0 (by simp) fun h36 H => ?_
      have hlen : (x.rows.take (posD x.rows s.name) ++ RowD.mk s.name [] :: x.rows.drop (posD x.rows s.name)).getD (posD x.rows s.name) default = RowD.mk s.name [] := by
        rw [getD_of default (by simp; omega), List.getElem_append_right (by simp; omega)]
        simp [List.length_take, Nat.min_eq_left hkle]
      refine fin _ (x.rows.take (posD x.rows s.name) ++ RowD.mk s.name [] :: x.rows.drop (posD x.rows s.name)) a' (n + 1) c' (by omega) (by rw [hlen]) (by rw [hlen]; simp) ?_ (H.to (by repeat' (first | exact trivial | exact rfl | omega | (refine ⟨?_, ?_⟩))))
      rw [hlen]
      have hp : putSample [] s = ([⟨s.at_, s.value⟩], 1) := rfl
      unfold takeH
      rw [if_neg hnf, if_neg (by omega), hp]
      congr 2
      rw [List.set_append_right _ _ (by simp; omega)]
      simp [List.length_take, Nat.min_eq_left hkle]
  · have hf : posD x.rows s.name < x.rows.length ∧ (x.rows.getD (posD x.rows s.name) default).name = s.name := by rw [← hn]; simpa using hc
    refine fin _ x.rows a n c (by omega) hf.2 (w.at hf.1).2 ?_ (H.to (by repeat' (first | exact trivial | exact rfl | omega | (refine ⟨?_, ?_⟩))))
    unfold takeH; rw [if_pos hf]
end
end Go.Proofs.Ytjmhahjmbmiepaa.D
