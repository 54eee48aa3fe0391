/- Contracts: a step of the reference. -/
import Derived.Test.YtjmhahjmbmiepaaBkD
namespace Go.Proofs.Ytjmhahjmbmiepaa.D
open Go
set_option linter.unusedVariables false
set_option linter.unusedSimpArgs false

section
variable {h : Heap} {L : List Asn}

theorem WayAt_ok {n : Nat} (hn : n ≤ 5) (hp : 1 ≤ n) (from_ to : Int) : CallsH PP fn_spec_WayAt [.int .i64 n, .int .i64 from_, .int .i64 to] h fun v h' => h' = h ∧
    ((∃ f t : Nat, from_ = f ∧ to = t ∧ f < n ∧ t < n ∧ f ≠ t ∧ v = .tuple ⟨[.int .i64 ((f * n + t : Nat) : Int), .bool true]⟩) ∨
      (¬ (inR from_ 0 (n - 1) = true ∧ inR to 0 (n - 1) = true ∧ from_ ≠ to) ∧ v = .tuple ⟨[.int .i64 0, .bool false]⟩)) := by
  refine calls_spec_WayAt _ _ _ ?_
  unfold M_spec_WayAt
  rw [wrapPred hn]
  have h1 : inR n 1 5 = true := by rw [inR_iff]; omega
  refine (l1In_ok _ _ _).mono ?_
  rintro v h' ⟨rfl, rfl⟩
  refine ⟨_, rfl, fun _ => ?_, fun hh => absurd h1 (not_of hh)⟩
  refine (l1In_ok _ _ _).mono ?_
  rintro v h' ⟨rfl, rfl⟩
  refine ⟨_, rfl, fun h2 => ?_, fun hh => ⟨rfl, .inr ⟨fun hc => not_of hh hc.1, rfl⟩⟩⟩
  refine (l1In_ok _ _ _).mono ?_
  rintro v h' ⟨rfl, rfl⟩
  refine ⟨_, rfl, fun h3 => ?_, fun hh => ⟨rfl, .inr ⟨fun hc => not_of hh hc.2.1, rfl⟩⟩⟩
  refine ⟨fun he => ⟨rfl, .inr ⟨fun hc => hc.2.2 (eq_of he), rfl⟩⟩, fun hne => ?_⟩
  obtain ⟨f, rfl, hf⟩ := nat_of (of_not h2)
  obtain ⟨t, rfl, ht⟩ := nat_of (of_not h3)
  have hix := idx_lt hf ht
  have hnn := mul_le5 hn
  rw [wrapIdx (by omega)]
  exact ⟨rfl, .inl ⟨f, t, rfl, rfl, hf, ht, by have := neq_of hne; omega, rfl⟩⟩

theorem l12Step_ok {x : BankD} {s : StepD} {d : BankH} {n i : Nat} (w : WfB n i x) (hi : i ≤ 1000) (hs : s.ok) (H : Own h (bankL x d L)) :
    CallsH PP fn_spec_l12Step [.agg ⟨d.cells⟩, .agg ⟨s.cells⟩] h fun v h' => v = .tuple ⟨[.agg ⟨d.cells⟩, .bool (stepD n x s).isSome]⟩ ∧ Own h' (bankL ((stepD n x s).getD x) d L) := by
  obtain ⟨k, from_, to, m⟩ := s
  refine calls_spec_l12Step _ _ _ _ _ _ _ _ _ _ _ _ _ _ _ k from_ to m ?_
  unfold M_spec_l12Step
  intro h10 e10 h11 e11 h12 e12
  have H := (((H.newE e10).newE e11).newE e12).q7.q7
  have l0 := H.len m1
  have l1 := H.len m2
  have l2 := H.len m3
  rw [w.coins] at l0
  rw [w.ways] at l1
  rw [w.kept] at l2
  have hn := w.le
  have hnn := mul_le5 hn
  have hpos := w.pos
  have no : stepD n x ⟨k, from_, to, m⟩ = none → ∀ g, Own g (rowA h.size ty_impl_Bank d.cells :: bankL x d (rowA h11.size ty_impl_Bank BankH.nil.cells :: rowA h10.size ty_impl_SnapStep [.int .i64 k, .int .i64 from_, .int .i64 to, .int .i64 m] :: L)) →
      (∃ g' : Heap, Own g' (bankL x d L) ∧ g' = g) := fun e g H => ⟨g, H.drop.p5.drop.p5.drop, rfl⟩
  refine ⟨_, _, _, H.cell m0 rfl, _, H.cell m7 rfl, fun hk => ?_, fun hk3 => ?_⟩
  · have hk := eq_of hk
    subst hk
    refine ⟨_, H.cell m7 rfl, fun ht0 => ?_, fun ht0 => ?_⟩
    · have ht0 := eq_of' ht0
      subst ht0
      refine ⟨_, H.cell m7 rfl, fun hm => ?_, fun hm => ?_⟩
      · have hm := eq_of' hm
        subst hm
        rw [l0.1, wrapPred hn]
        refine ⟨_, H.cell m7 rfl, (l1In_ok _ _ _).mono ?_⟩
        rintro v h' ⟨rfl, rfl⟩
        refine ⟨_, rfl, fun hin => ?_, fun hout => ?_⟩
        · obtain ⟨f, rfl, hf⟩ := nat_of (of_not hin)
          obtain ⟨b, o, ha, hc, hr⟩ := H.intAt m3 (i := f) (by rw [w.kept]; exact hf)
          refine ⟨_, _, _, H.cell m0 rfl, _, H.cell m7 rfl, b, o, ha, by omega, by omega, _, hc, ?_⟩
          simp only [getD_get (0 : Int)] at hc ⊢
          refine ⟨fun hkept => ?_, fun hkept => ?_⟩
          · have e : stepD n x ⟨3, (f : Int), 0, 0⟩ = none := begin_no (t := 0) hf (by omega) fun hc => by have := of_decide_eq_true hkept; omega
            rw [e]
            refine ⟨_, _, _, H.cell m0 rfl, _, _, _, H.cell m0 rfl, _, _, _, H.cell m0 rfl, _, _, _, H.cell m0 rfl, _, _, _, H.cell m0 rfl, _, _, H.row m6, by simp [BankH.cells, BankH.nil], ?_⟩
            intro g' e'
            have H := H.p6.putE e'
            exact ⟨_, _, _, H.cell m0 rfl, _, _, _, H.cell m0 rfl, _, _, _, H.cell m0 rfl, _, _, _, H.cell m0 rfl, _, _, _, H.cell m0 rfl, rfl, H.drop.drop.p5.drop⟩
          · have hkept : x.kept.getD f 0 < 0 := by have := of_decide_eq_false hkept; omega
            have e := begin_yes (x := x) hf (show 0 < n by omega) hkept
            rw [e]
            refine ⟨_, _, _, H.cell m0 rfl, _, _, _, H.cell m0 rfl, _, _, _, H.cell m0 rfl, _, _, _, H.cell m0 rfl, _, _, _, H.cell m0 rfl, _, H.cell m7 rfl, (l12Picture_ok w hf hi H.q5).mono ?_⟩
            rintro v g ⟨rfl, H⟩
            have H := H.p5
            refine ⟨_, _, _, _, _, _, _, _, _, _, _, _, _, _, _, rfl, _, _, H.row m6, by simp [BankH.cells, BankH.nil], ?_⟩
            intro g' e'
            have H := H.p6.putE e'
            exact ⟨_, _, _, H.cell m0 rfl, _, _, _, H.cell m0 rfl, _, _, _, H.cell m0 rfl, _, _, _, H.cell m0 rfl, _, _, _, H.cell m0 rfl, rfl, H.drop.drop.p5.drop⟩
        · have e : stepD n x ⟨3, from_, 0, 0⟩ = none := step_out fun hc => not_of hout hc.1
          rw [e]
          refine ⟨_, _, _, H.cell m0 rfl, _, _, _, H.cell m0 rfl, _, _, _, H.cell m0 rfl, _, _, _, H.cell m0 rfl, _, _, _, H.cell m0 rfl, _, _, H.row m6, by simp [BankH.cells, BankH.nil], ?_⟩
          intro g' e'
          have H := H.p6.putE e'
          exact ⟨_, _, _, H.cell m0 rfl, _, _, _, H.cell m0 rfl, _, _, _, H.cell m0 rfl, _, _, _, H.cell m0 rfl, _, _, _, H.cell m0 rfl, rfl, H.drop.drop.p5.drop⟩
      · have e : stepD n x ⟨3, from_, 0, m⟩ = none := by
          by_cases hin : inR from_ 0 (n - 1) = true
          · obtain ⟨f, rfl, hf⟩ := nat_of hin
            exact begin_no (t := 0) hf (by omega) fun hc => neq_of' hm hc.2.2
          · exact step_out fun hc => hin hc.1
        rw [e]
        refine ⟨_, _, _, H.cell m0 rfl, _, _, _, H.cell m0 rfl, _, _, _, H.cell m0 rfl, _, _, _, H.cell m0 rfl, _, _, _, H.cell m0 rfl, _, _, H.row m6, by simp [BankH.cells, BankH.nil], ?_⟩
        intro g' e'
        have H := H.p6.putE e'
        exact ⟨_, _, _, H.cell m0 rfl, _, _, _, H.cell m0 rfl, _, _, _, H.cell m0 rfl, _, _, _, H.cell m0 rfl, _, _, _, H.cell m0 rfl, rfl, H.drop.drop.p5.drop⟩
    · have e : stepD n x ⟨3, from_, to, m⟩ = none := by
        by_cases hin : inR from_ 0 (n - 1) = true
        · by_cases hin2 : inR to 0 (n - 1) = true
          · obtain ⟨f, rfl, hf⟩ := nat_of hin
            obtain ⟨t, rfl, ht⟩ := nat_of hin2
            exact begin_no hf ht fun hc => neq_of' ht0 hc.2.1
          · exact step_out fun hc => hin2 hc.2
        · exact step_out fun hc => hin hc.1
      rw [e]
      refine ⟨_, _, _, H.cell m0 rfl, _, _, _, H.cell m0 rfl, _, _, _, H.cell m0 rfl, _, _, _, H.cell m0 rfl, _, _, _, H.cell m0 rfl, _, _, H.row m6, by simp [BankH.cells, BankH.nil], ?_⟩
      intro g' e'
      have H := H.p6.putE e'
      exact ⟨_, _, _, H.cell m0 rfl, _, _, _, H.cell m0 rfl, _, _, _, H.cell m0 rfl, _, _, _, H.cell m0 rfl, _, _, _, H.cell m0 rfl, rfl, H.drop.drop.p5.drop⟩
  · have hk3 := neq_of hk3
    rw [l0.1]
    refine ⟨_, H.cell m7 rfl, _, H.cell m7 rfl, (WayAt_ok hn hpos _ _).mono ?_⟩
    rintro v h93 ⟨rfl, hv⟩
    rcases hv with ⟨f, t, rfl, rfl, hf, ht, hft, rfl⟩ | ⟨hno, rfl⟩
    · refine ⟨_, _, rfl, fun hh => absurd hh (by decide), fun _ => ?_⟩
      have hix := idx_lt hf ht
      intro K hK
      have fin : ∀ b : Bool, b = (decide (k = 1) && inR m 1 50 && decide (m ≤ x.coins.getD f 0) && decide ((x.ways.getD (f * n + t) []).length < 39)) → K [.bool b] h93 := by
        intro b hb
        refine hK _ _ ⟨fun hbt => ?_, fun hbf => ?_⟩
        · rw [hbt] at hb
          have hb := hb.symm
          simp only [Bool.and_eq_true, decide_eq_true_eq] at hb
          obtain ⟨⟨⟨rfl, hm⟩, hle⟩, hroom⟩ := hb
          rw [give_yes hf ht hm hle (fun e => hft e.symm) hroom]
          obtain ⟨b, o, ha, hc, hr⟩ := H.intAt m1 (i := f) (by rw [w.coins]; exact hf)
          refine ⟨_, _, _, H.cell m0 rfl, _, H.cell m7 rfl, b, o, ha, by omega, by omega, _, hc, _, H.cell m7 rfl, ?_⟩
          simp only [getD_get (0 : Int)] at hc ⊢
          obtain ⟨b', o', row, ha', r, hl, st⟩ := H.p1.setInt (i := f) (by rw [w.coins]; exact hf)
          refine ⟨b', o', ha', by omega, by omega, _, row, r, hl, ?_⟩
          intro h36 e36
          have H := (Own.at (st _ (inI64_wrap _)) e36).q1
          obtain ⟨b1, o1, ai, ni, ci, ha1, hc1, H1⟩ := H.p2.inner (i := f * n + t) (by rw [w.ways]; exact hix)
          have l9 := H1.len m0
          rw [getD_get []] at l9
          refine ⟨_, _, _, H.cell m0 rfl, _, _, _, H.cell m0 rfl, b1, o1, ha1, by omega, by omega, _, _, _, hc1, _, H.cell m7 rfl, ?_⟩
          intro h39 e39
          have H := H1.newE e39
          refine ⟨H.innerCell m2, H.cell m3 rfl, H.cell m3 rfl, ?_⟩
          have hway := w.way (f * n + t)
          refine H.p1.append1 (y := m) m0 ⟨rfl, rfl, hs.2.2.2⟩ (by omega) rfl fun a' c' h40 H => ?_
          refine ⟨H.cell m3 rfl, b1, o1, ha1, by omega, by omega, ?_⟩
          obtain ⟨row1, r1, hl1, st1⟩ := H.p2.innerPut
          refine ⟨_, row1, r1, hl1, ?_⟩
          intro h42 e42
          have H := (Own.at (st1 _ _ _) e42).p1.closeSl.p1.drop.q2
          rw [getD_get []] at H
          refine ⟨_, _, _, H.cell m0 rfl, _, _, _, H.cell m0 rfl, _, _, _, H.cell m0 rfl, _, _, _, H.cell m0 rfl, _, _, _, H.cell m0 rfl, _, _, H.row m6, by simp [BankH.cells, BankH.nil], ?_⟩
          intro g' e'
          have H := H.p6.putE e'
          exact ⟨_, _, _, H.cell m0 rfl, _, _, _, H.cell m0 rfl, _, _, _, H.cell m0 rfl, _, _, _, H.cell m0 rfl, _, _, _, H.cell m0 rfl, rfl, H.drop.drop.p5.drop⟩
        · intro K2 hK2
          have hgive : k = 1 → stepD n x ⟨k, f, t, m⟩ = none := by
            rintro rfl
            refine give_no hf ht fun hc => ?_
            rw [hbf, hc.1, decide_eq_true hc.2.1, decide_eq_true hc.2.2.2] at hb
            exact absurd hb (by decide)
          have fin2 : ∀ b : Bool, b = (decide (k = 2) && decide (m = 0) && decide ((x.ways.getD (f * n + t) []).length > 0)) → K2 [.bool b] h93 := by
            intro b hb
            refine hK2 _ _ ⟨fun hbt => ?_, fun hbf => ?_⟩
            · rw [hbt] at hb
              have hb := hb.symm
              simp only [Bool.and_eq_true, decide_eq_true_eq] at hb
              obtain ⟨⟨rfl, rfl⟩, hlen⟩ := hb
              have hne : x.ways.getD (f * n + t) [] ≠ [] := List.length_pos_iff.1 hlen
              rw [take_yes hf ht hne rfl]
              refine ⟨_, _, _, H.cell m0 rfl, _, _, _, H.cell m0 rfl, _, _, _, H.cell m0 rfl, _, _, _, H.cell m0 rfl, _, _, _, H.cell m0 rfl, _, H.cell m7 rfl, _, H.cell m7 rfl, (l12Take_ok w hf ht hft hi hne H.q5).mono ?_⟩
              rintro v g ⟨rfl, H⟩
              have H := H.p5
              refine ⟨_, _, _, _, _, _, _, _, _, _, _, _, _, _, _, rfl, _, _, H.row m6, by simp [BankH.cells, BankH.nil], ?_⟩
              intro g' e'
              have H := H.p6.putE e'
              exact ⟨_, _, _, H.cell m0 rfl, _, _, _, H.cell m0 rfl, _, _, _, H.cell m0 rfl, _, _, _, H.cell m0 rfl, _, _, _, H.cell m0 rfl, rfl, H.drop.drop.p5.drop⟩
            · have e : stepD n x ⟨k, f, t, m⟩ = none := by
                by_cases hk1 : k = 1
                · exact hgive hk1
                · by_cases hk2 : k = 2
                  · subst hk2
                    refine take_no hf ht fun hc => ?_
                    rw [hbf, decide_eq_true hc.2, decide_eq_true (List.length_pos_iff.2 hc.1)] at hb
                    exact absurd hb (by decide)
                  · exact other_no hk1 hk2 hk3
              rw [e]
              refine ⟨_, _, _, H.cell m0 rfl, _, _, _, H.cell m0 rfl, _, _, _, H.cell m0 rfl, _, _, _, H.cell m0 rfl, _, _, _, H.cell m0 rfl, _, _, H.row m6, by simp [BankH.cells, BankH.nil], ?_⟩
              intro g' e'
              have H := H.p6.putE e'
              exact ⟨_, _, _, H.cell m0 rfl, _, _, _, H.cell m0 rfl, _, _, _, H.cell m0 rfl, _, _, _, H.cell m0 rfl, _, _, _, H.cell m0 rfl, rfl, H.drop.drop.p5.drop⟩
          refine ⟨_, H.cell m7 rfl, fun hk => ?_, fun hk => fin2 _ (by rw [decide_eq_false (neq_of hk)]; rfl)⟩
          have hk := eq_of hk
          refine ⟨_, H.cell m7 rfl, fun hm => ?_, fun hm => fin2 _ (by rw [decide_eq_false (neq_of hm)]; simp)⟩
          obtain ⟨b1, o1, ai, ni, ci, ha1, hc1, H1⟩ := H.p2.inner (i := f * n + t) (by rw [w.ways]; exact hix)
          have l9 := H1.len m0
          rw [getD_get []] at l9
          refine ⟨_, _, _, H.cell m0 rfl, b1, o1, ha1, by omega, by omega, _, _, _, hc1, fin2 _ ?_⟩
          rw [decide_eq_true hk, decide_eq_true (eq_of hm), l9.1]
          simp
      refine ⟨_, H.cell m7 rfl, fun hk => ?_, fun hk => fin _ (by rw [decide_eq_false (neq_of hk)]; rfl)⟩
      have hk := eq_of hk
      refine ⟨_, H.cell m7 rfl, (l1In_ok _ _ _).mono ?_⟩
      rintro v h' ⟨rfl, rfl⟩
      refine ⟨_, rfl, H.cell m7 rfl, fun hm => ?_, fun hm => fin _ (by rw [hm]; simp)⟩
      obtain ⟨b, o, ha, hc, hr⟩ := H.intAt m1 (i := f) (by rw [w.coins]; exact hf)
      refine ⟨_, H.cell m7 rfl, _, _, _, H.cell m0 rfl, _, H.cell m7 rfl, b, o, ha, by omega, by omega, _, hc, ?_⟩
      simp only [getD_get (0 : Int)] at hc ⊢
      refine ⟨fun hle => ?_, fun hle => fin _ (by rw [hle]; simp)⟩
      obtain ⟨b1, o1, ai, ni, ci, ha1, hc1, H1⟩ := H.p2.inner (i := f * n + t) (by rw [w.ways]; exact hix)
      have l9 := H1.len m0
      rw [getD_get []] at l9
      refine ⟨_, _, _, H.cell m0 rfl, b1, o1, ha1, by omega, by omega, _, _, _, hc1, fin _ ?_⟩
      rw [decide_eq_true hk, hm, hle, l9.1]
      simp only [Bool.true_and, decide_eq_decide]
      omega
    · refine ⟨_, _, rfl, fun _ => ?_, fun hh => absurd hh (by decide)⟩
      have e : stepD n x ⟨k, from_, to, m⟩ = none := by
        by_cases hin : inR from_ 0 (n - 1) = true
        · by_cases hin2 : inR to 0 (n - 1) = true
          · obtain ⟨f, rfl, hf⟩ := nat_of hin
            obtain ⟨t, rfl, ht⟩ := nat_of hin2
            have hft : f = t := by
              rcases Nat.decEq f t with hh | hh
              · exact absurd ⟨hin, hin2, by omega⟩ hno
              · exact hh
            subst hft
            by_cases hk1 : k = 1
            · subst hk1; exact give_no hf ht fun hc => hc.2.2.1 rfl
            · by_cases hk2 : k = 2
              · subst hk2; exact take_no hf ht fun hc => hc.1 (w.diag _ hf)
              · exact other_no hk1 hk2 hk3
          · exact step_out fun hc => hin2 hc.2
        · exact step_out fun hc => hin hc.1
      rw [e]
      refine ⟨_, _, _, H.cell m0 rfl, _, _, _, H.cell m0 rfl, _, _, _, H.cell m0 rfl, _, _, _, H.cell m0 rfl, _, _, _, H.cell m0 rfl, _, _, H.row m6, by simp [BankH.cells, BankH.nil], ?_⟩
      intro g' e'
      have H := H.p6.putE e'
      exact ⟨_, _, _, H.cell m0 rfl, _, _, _, H.cell m0 rfl, _, _, _, H.cell m0 rfl, _, _, _, H.cell m0 rfl, _, _, _, H.cell m0 rfl, rfl, H.drop.drop.p5.drop⟩
end
end Go.Proofs.Ytjmhahjmbmiepaa.D
