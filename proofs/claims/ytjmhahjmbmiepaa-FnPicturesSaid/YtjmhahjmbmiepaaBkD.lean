/- Contracts: a step. -/
import Derived.Test.YtjmhahjmbmiepaaBkC
namespace Go.Proofs.Ytjmhahjmbmiepaa.D
open Go
set_option linter.unusedVariables false
set_option linter.unusedSimpArgs false

section
variable {n f t : Nat} {x : BankD} {k m from_ to : Int}
theorem step_out (h : ¬ (inR from_ 0 (n - 1) = true ∧ inR to 0 (n - 1) = true)) : stepD n x ⟨k, from_, to, m⟩ = none := by
  unfold stepD
  rw [if_neg]
  simpa using h
theorem step_in (hf : f < n) (ht : t < n) : stepD n x ⟨k, f, t, m⟩ =
    if k = 1 then
      if inR m 1 50 && decide (m ≤ x.coins.getD f 0) && decide (t ≠ f) && decide ((x.ways.getD (f * n + t) []).length < 39) then
        some { x with coins := x.coins.set f (IntKind.i64.wrap (x.coins.getD f 0 - m)), ways := x.ways.set (f * n + t) (x.ways.getD (f * n + t) [] ++ [m]) }
      else none
    else if k = 2 then
      if decide (x.ways.getD (f * n + t) [] ≠ []) && decide (m = 0) then some (takeD n { x with ways := x.ways.set (f * n + t) ((x.ways.getD (f * n + t) []).drop 1) } f t ((x.ways.getD (f * n + t) []).getD 0 0)) else none
    else if k = 3 then
      if decide (x.kept.getD f 0 < 0) && decide ((t : Int) = 0) && decide (m = 0) then some (recordD n x f) else none
    else none := by
  unfold stepD
  rw [if_pos (by simp only [inR_iff, Bool.and_eq_true]; omega)]
  rfl
theorem give_yes (hf : f < n) (ht : t < n) (h1 : inR m 1 50 = true) (h2 : m ≤ x.coins.getD f 0) (h3 : t ≠ f) (h4 : (x.ways.getD (f * n + t) []).length < 39) :
    stepD n x ⟨1, f, t, m⟩ = some { x with coins := x.coins.set f (IntKind.i64.wrap (x.coins.getD f 0 - m)), ways := x.ways.set (f * n + t) (x.ways.getD (f * n + t) [] ++ [m]) } := by
  rw [step_in hf ht, if_pos rfl, h1, decide_eq_true h2, decide_eq_true h3, decide_eq_true h4]; rfl
theorem give_no (hf : f < n) (ht : t < n) (h : ¬ (inR m 1 50 = true ∧ m ≤ x.coins.getD f 0 ∧ t ≠ f ∧ (x.ways.getD (f * n + t) []).length < 39)) : stepD n x ⟨1, f, t, m⟩ = none := by
  rw [step_in hf ht, if_pos rfl, if_neg]
  intro hc
  simp only [Bool.and_eq_true, decide_eq_true_eq] at hc
  exact h ⟨hc.1.1.1, hc.1.1.2, hc.1.2, hc.2⟩
theorem take_yes (hf : f < n) (ht : t < n) (h1 : x.ways.getD (f * n + t) [] ≠ []) (h2 : m = 0) :
    stepD n x ⟨2, f, t, m⟩ = some (takeD n { x with ways := x.ways.set (f * n + t) ((x.ways.getD (f * n + t) []).drop 1) } f t ((x.ways.getD (f * n + t) []).getD 0 0)) := by
  rw [step_in hf ht, if_neg (by omega), if_pos rfl, decide_eq_true h1, decide_eq_true h2]; rfl
theorem take_no (hf : f < n) (ht : t < n) (h : ¬ (x.ways.getD (f * n + t) [] ≠ [] ∧ m = 0)) : stepD n x ⟨2, f, t, m⟩ = none := by
  rw [step_in hf ht, if_neg (by omega), if_pos rfl, if_neg]
  intro hc
  simp only [Bool.and_eq_true, decide_eq_true_eq] at hc
  exact h hc
theorem begin_yes (hf : f < n) (ht : 0 < n) (h1 : x.kept.getD f 0 < 0) : stepD n x ⟨3, f, 0, 0⟩ = some (recordD n x f) := by
  have := step_in (x := x) (k := 3) (m := 0) hf ht
  rw [if_neg (by omega), if_neg (by omega), if_pos rfl, decide_eq_true h1] at this
  exact this
theorem begin_no (hf : f < n) (ht : t < n) (h : ¬ (x.kept.getD f 0 < 0 ∧ (t : Int) = 0 ∧ m = 0)) : stepD n x ⟨3, f, t, m⟩ = none := by
  rw [step_in hf ht, if_neg (by omega), if_neg (by omega), if_pos rfl, if_neg]
  intro hc
  simp only [Bool.and_eq_true, decide_eq_true_eq] at hc
  exact h ⟨hc.1.1, hc.1.2, hc.2⟩
theorem other_no (h1 : k ≠ 1) (h2 : k ≠ 2) (h3 : k ≠ 3) : stepD n x ⟨k, from_, to, m⟩ = none := by
  unfold stepD
  split
  · simp only [if_neg h1, if_neg h2, if_neg h3]
  · rfl
end
theorem nat_of {n : Nat} {x : Int} (h : inR x 0 (n - 1) = true) : ∃ f : Nat, x = f ∧ f < n := by
  rw [inR_iff] at h
  obtain ⟨f, rfl⟩ := Int.eq_ofNat_of_zero_le h.1
  exact ⟨f, rfl, by omega⟩
theorem wrapPred {n : Nat} (h : n ≤ 5) : IntKind.i64.wrap ((n : Int) - 1) = (n : Int) - 1 := wrap64_of (by omega) (by omega)
theorem neq_of {a b : Int} (h : (a == b) = false) : a ≠ b := by simpa using h
theorem eq_of {a b : Int} (h : (a == b) = true) : a = b := by simpa using h
theorem neq_of' {a b : Int} (h : (a != b) = true) : a ≠ b := by simpa using h
theorem eq_of' {a b : Int} (h : (a != b) = false) : a = b := by simpa using h
theorem of_not {b : Bool} (h : (!b) = false) : b = true := by simpa using h
theorem not_of {b : Bool} (h : (!b) = true) : ¬ b = true := by simpa using h

section
variable {h : Heap} {L : List Asn}

theorem step_ok {x : BankD} {s : StepD} {d : BankH} {b0 n i : Nat} (w : WfB n i x) (hi : i ≤ 1000) (hs : s.ok) (H : Own h (rowA b0 ty_impl_Bank d.cells :: bankL x d L)) :
    CallsH PP fn_impl_Bank_step [.pointer (some ⟨b0, 0, none⟩), .agg ⟨s.cells⟩] h fun v h' => v = .bool (stepD n x s).isSome ∧ Own h' (rowA b0 ty_impl_Bank d.cells :: bankL ((stepD n x s).getD x) d L) := by
  obtain ⟨k, from_, to, m⟩ := s
  refine calls_impl_Bank_step _ _ k from_ to m ?_
  unfold M_impl_Bank_step
  intro h5 e5
  have H := (H.newE e5).q6
  have l0 := H.len m1
  have l1 := H.len m2
  have l2 := H.len m3
  rw [w.coins] at l0
  rw [w.ways] at l1
  rw [w.kept] at l2
  have hn := w.le
  have hnn := mul_le5 hn
  have no : stepD n x ⟨k, from_, to, m⟩ = none → (Value.bool false = .bool (stepD n x ⟨k, from_, to, m⟩).isSome ∧ Own h5 (rowA b0 ty_impl_Bank d.cells :: bankL ((stepD n x ⟨k, from_, to, m⟩).getD x) d L)) :=
    fun e => by rw [e]; exact ⟨rfl, H.p6.drop⟩
  refine ⟨_, _, _, H.cell m0 rfl, _, H.cell m6 rfl, ?_⟩
  rw [l0.1, wrapPred hn]
  refine (within_ok _ _ _).mono ?_
  rintro v h' ⟨rfl, rfl⟩
  refine ⟨_, rfl, fun hin => ?_, fun hout => no (step_out fun hc => not_of hout hc.1)⟩
  refine ⟨_, H.cell m6 rfl, (within_ok _ _ _).mono ?_⟩
  rintro v h'' ⟨rfl, rfl⟩
  refine ⟨_, rfl, fun hout => no (step_out fun hc => not_of hout hc.2), fun hin2 => ?_⟩
  obtain ⟨f, rfl, hf⟩ := nat_of (of_not hin)
  obtain ⟨t, rfl, ht⟩ := nat_of (of_not hin2)
  have hix := idx_lt hf ht
  refine ⟨_, _, _, H.cell m0 rfl, _, H.cell m6 rfl, _, H.cell m6 rfl, ?_⟩
  rw [wrapIdx (by omega)]
  obtain ⟨b1, o1, ai, ni, ci, ha1, hc1, H1⟩ := H.p2.inner (i := f * n + t) (by rw [w.ways]; exact hix)
  have l9 := H1.len m0
  rw [getD_get []] at l9
  refine ⟨b1, o1, ha1, by omega, by omega, _, H.cell m6 rfl, fun hk => ?_, fun hk1 => ⟨fun hk => ?_, fun hk2 => ⟨fun hk => ?_, fun hk3 => no (other_no (neq_of hk1) (neq_of hk2) (neq_of hk3))⟩⟩⟩
  · have hk := eq_of hk
    subst hk
    refine ⟨_, H.cell m6 rfl, (within_ok _ _ _).mono ?_⟩
    rintro v h'' ⟨rfl, rfl⟩
    refine ⟨_, rfl, fun hm => ?_, fun hm => no (give_no hf ht fun hc => not_of hm hc.1)⟩
    obtain ⟨b, o, ha, hc, hr⟩ := H.intAt m1 (i := f) (by rw [w.coins]; exact hf)
    refine ⟨_, _, _, H.cell m0 rfl, _, H.cell m6 rfl, b, o, ha, by omega, by omega, _, hc, _, H.cell m6 rfl, ?_⟩
    simp only [getD_get (0 : Int)] at hc ⊢
    refine ⟨fun hle => ?_, fun hlt => no (give_no hf ht fun hc => by have := of_decide_eq_true hlt; omega)⟩
    refine ⟨_, H.cell m6 rfl, _, H.cell m6 rfl, fun hft => ?_, fun hft => no (give_no hf ht fun hc => hc.2.2.1 (by have := eq_of hft; omega))⟩
    refine ⟨_, _, _, hc1, fun hfull => no (give_no hf ht fun hc => by have := of_decide_eq_true hfull; omega), fun hroom => ?_⟩
    refine ⟨_, _, _, H.cell m0 rfl, _, H.cell m6 rfl, b, o, ha, by omega, by omega, _, hc, _, H.cell m6 rfl, ?_⟩
    obtain ⟨b', o', row, ha', r, hl, st⟩ := H1.p3.setInt (i := f) (by rw [w.coins]; exact hf)
    refine ⟨b', o', ha', by omega, by omega, _, row, r, hl, ?_⟩
    intro h36 e36
    have H := (Own.at (st _ (inI64_wrap _)) e36)
    refine ⟨_, _, _, H.innerCell m2, _, H.cell m7 rfl, ?_⟩
    intro h39 e39
    have H := (H.newE e39)
    refine ⟨H.innerCell m3, ?_⟩
    have hway := w.way (f * n + t)
    refine H.p2.append1 (y := m) m0 ⟨rfl, rfl, hs.2.2.2⟩ (by omega) rfl fun a' c' h40 H => ?_
    obtain ⟨row1, r1, hl1, st1⟩ := H.p3.innerPut
    refine ⟨_, row1, r1, hl1, ?_⟩
    intro h42 e42
    have H := (Own.at (st1 _ _ _) e42).p1.closeSl.p1.drop
    have hle : m ≤ x.coins.getD f 0 := by have := of_decide_eq_false hle; omega
    have hft : t ≠ f := by have := neq_of hft; omega
    have hroom : (x.ways.getD (f * n + t) []).length < 39 := by have := of_decide_eq_false hroom; omega
    rw [give_yes hf ht (of_not hm) hle hft hroom]
    rw [getD_get []] at H
    exact ⟨rfl, H.p6.drop.p1.p2⟩
  · have hk := eq_of hk
    subst hk
    refine ⟨_, _, _, hc1, fun hne => ?_, fun he => no (take_no hf ht fun hc => hc.1 (List.eq_nil_of_length_eq_zero (by have := eq_of he; omega)))⟩
    have hne : x.ways.getD (f * n + t) [] ≠ [] := by
      intro e
      rw [e] at l9
      have := neq_of hne
      simp at l9
      omega
    have hpos : 0 < (x.ways.getD (f * n + t) []).length := List.length_pos_iff.2 hne
    refine ⟨_, H.cell m6 rfl, fun hm => no (take_no hf ht fun hc => neq_of' hm hc.2), fun hm => ?_⟩
    have hm := eq_of' hm
    subst hm
    rw [take_yes hf ht hne rfl]
    obtain ⟨b2, o2, ha2, hc2, hr2⟩ := H1.intAt m0 (i := 0) (by rw [getD_get []]; exact hpos)
    simp only [getD_get (0 : Int), getD_get ([] : List Int)] at hc2
    refine ⟨_, _, _, hc1, b2, o2, ha2, by omega, by omega, _, hc2, _, _, _, hc1, by omega, by omega, by omega, ?_⟩
    obtain ⟨row1, r1, hl1, st1⟩ := H1.p1.innerPut
    refine ⟨_, row1, r1, hl1, ?_⟩
    intro h50 e50
    have H := (Own.at (st1 _ _ _) e50)
    have H := (H.p1.sub (l := 1) (by omega)).closeSl.q2
    rw [getD_get []] at H
    refine ⟨_, H.cell m6 rfl, _, H.cell m6 rfl, ?_⟩
    have w1 := w.pop hf ht (y := (x.ways.getD (f * n + t) []).drop 1) (by rw [List.length_drop]; have := w.way (f * n + t); omega) (fun e => by subst e; rw [w.diag _ hf]; rfl)
    refine (take_ok w1 hf ht hi H).mono ?_
    rintro v h53 ⟨rfl, H⟩
    exact ⟨rfl, rfl, H.p6.drop⟩
  · have hk := eq_of hk
    subst hk
    obtain ⟨b, o, ha, hc, hr⟩ := H.intAt m3 (i := f) (by rw [w.kept]; exact hf)
    refine ⟨_, _, _, H.cell m0 rfl, _, H.cell m6 rfl, b, o, ha, by omega, by omega, _, hc, ?_⟩
    simp only [getD_get (0 : Int)] at hc ⊢
    refine ⟨fun hkept => ?_, fun hkept => no (begin_no hf ht fun hc => by have := of_decide_eq_true hkept; omega)⟩
    refine ⟨_, H.cell m6 rfl, fun ht0 => ?_, fun ht0 => no (begin_no hf ht fun hc => neq_of' ht0 hc.2.1)⟩
    refine ⟨_, H.cell m6 rfl, fun hm => no (begin_no hf ht fun hc => neq_of' hm hc.2.2), fun hm => ?_⟩
    have hm := eq_of' hm
    subst hm
    have ht0 : t = 0 := by have := eq_of' ht0; omega
    subst ht0
    have hkept : x.kept.getD f 0 < 0 := by have := of_decide_eq_false hkept; omega
    have e := begin_yes (x := x) hf ht hkept
    refine ⟨_, H.cell m6 rfl, (record_ok w hf hi H).mono ?_⟩
    rintro v h61 ⟨rfl, H⟩
    refine ⟨rfl, ?_⟩
    have e : stepD n x ⟨3, (f : Int), ((0 : Nat) : Int), 0⟩ = some (recordD n x f) := e
    rw [e]
    exact ⟨rfl, H.p6.drop⟩
end
end Go.Proofs.Ytjmhahjmbmiepaa.D
