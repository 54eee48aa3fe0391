/- Contracts: the reference's marker; an item taken. -/
import Derived.Test.YtjmhahjmbmiepaaBkB
import Derived.Test.YtjmhahjmbmiepaaSepC
namespace Go.Proofs.Ytjmhahjmbmiepaa.D
open Go
set_option linter.unusedVariables false
set_option linter.unusedSimpArgs false

section
variable {h : Heap} {L : List Asn}

theorem l12Picture_ok {x : BankD} {d : BankH} {n k i : Nat} (w : WfB n i x) (hk : k < n) (hi : i ≤ 1000) (H : Own h (bankL x d L)) :
    CallsH PP fn_spec_l12Picture [.agg ⟨d.cells⟩, .int .i64 k] h fun v h' => v = .agg ⟨d.cells⟩ ∧ Own h' (bankL (recordD n x k) d L) := by
  refine calls_spec_l12Picture _ _ _ _ _ _ _ _ _ _ _ _ _ _ _ _ ?_
  unfold M_spec_l12Picture
  intro h7 e7 h8 e8
  have H := ((H.newE e7).newE e8).q6
  have l0 := H.len m1
  have l1 := H.len m2
  have l2 := H.len m3
  rw [w.coins] at l0
  rw [w.ways] at l1
  rw [w.kept] at l2
  have hn := w.le
  have hnn := mul_le5 hn
  refine ⟨_, _, _, H.cell m0 rfl, _, _, _, H.cell m0 rfl, _, _, _, H.cell m0 rfl, ?_⟩
  obtain ⟨b, o, ha, hc, hr⟩ := H.intAt m1 (i := k) (by rw [w.coins]; exact hk)
  refine ⟨b, o, ha, by omega, by omega, _, hc, ?_⟩
  obtain ⟨b', o', row, ha', r, hl, st⟩ := H.p3.setInt (i := k) (by rw [w.kept]; exact hk)
  refine ⟨b', o', ha', by omega, by omega, _, row, r, hl, ?_⟩
  rintro h9 rfl
  have H := (st _ hr).q3
  rw [getD_get 0] at H ⊢
  rw [l0.1]
  refine ⟨UpI n fun t g => Own g (rowA h.size ty_impl_Bank d.cells :: bankL { x with kept := x.kept.set k (x.coins.getD k 0), ways := recTo n k x.ways t } d (rowA h7.size ty_impl_Bank BankH.nil.cells :: L)), UpM n, UpI.start H, ?_⟩
  intro g y hI
  obtain ⟨t, ht, rfl, H⟩ := hI.elim
  refine ⟨fun hlt => ?_, fun hge => ?_⟩
  · have hlt := lt_of_dec hlt
    refine ⟨fun hne => ?_, fun he => ?_⟩
    · have hne : t ≠ k := by rintro rfl; simp at hne
      have hix := idx_lt hk hlt
      rw [wrapIdx (by omega)]
      refine ⟨_, _, _, H.cell m0 rfl, _, _, _, H.cell m0 rfl, ?_⟩
      obtain ⟨b1, o1, ai, ni, ci, ha1, hc1, H⟩ := H.p2.inner (i := k * n + t) (by rw [recTo_length, w.ways]; exact hix)
      refine ⟨b1, o1, ha1, by omega, by omega, _, _, _, hc1, ?_⟩
      rintro h16 rfl
      have H := H.new ty_int [.int .i64 0]
      refine ⟨H.innerCell m2, H.cell m3 rfl, H.cell m3 rfl, ?_⟩
      have hlen := (H.len m1).1
      rw [getD_get [], recTo_get w.ways hk t ht, if_neg (by rintro ⟨u, h1, h2, h3⟩; omega)] at hlen
      have hway := w.way (k * n + t)
      refine H.p1.append1 (y := 0) m0 ⟨rfl, rfl, by simp [inI64]⟩ (by omega) rfl fun a' c' h17 H => ?_
      refine ⟨H.cell m3 rfl, b1, o1, ha1, by omega, by omega, ?_⟩
      obtain ⟨row1, r1, hl1, st1⟩ := H.p2.innerPut
      refine ⟨_, row1, r1, hl1, ?_⟩
      rintro h20 rfl
      have H := (st1 a' (ni + 1) c').p1.closeSl.p1.drop.q2
      refine UpI.next (by omega) hlt ?_
      rw [getD_get []] at H
      unfold recTo
      rw [if_neg hne]
      exact H
    · have he : t = k := by have : (t : Int) = k := by simpa using he
                            omega
      refine UpI.next (by omega) hlt ?_
      unfold recTo
      rw [if_pos he]
      exact H
  · have hge := ge_of_dec hge
    have : t = n := by omega
    subst this
    refine ⟨_, _, _, H.cell m0 rfl, _, _, _, H.cell m0 rfl, _, _, _, H.cell m0 rfl, _, _, _, H.cell m0 rfl, _, _, _, H.cell m0 rfl, _, _, H.row m6, by simp [BankH.cells, BankH.nil], ?_⟩
    intro g' e'
    have H := H.p6.putE e'
    exact ⟨_, _, _, H.cell m0 rfl, _, _, _, H.cell m0 rfl, _, _, _, H.cell m0 rfl, _, _, _, H.cell m0 rfl, _, _, _, H.cell m0 rfl, rfl, H.drop.drop⟩

theorem take_ok {x : BankD} {d : BankH} {b0 n f t i : Nat} {item : Int} (w : WfB n i x) (hf : f < n) (ht : t < n) (hi : i ≤ 1000) (H : Own h (rowA b0 ty_impl_Bank d.cells :: bankL x d L)) :
    CallsH PP fn_impl_Bank_take [.pointer (some ⟨b0, 0, none⟩), .int .i64 f, .int .i64 t, .int .i64 item] h fun v h' => v = .tuple ⟨[]⟩ ∧ Own h' (rowA b0 ty_impl_Bank d.cells :: bankL (takeD n x f t item) d L) := by
  refine calls_impl_Bank_take _ _ _ _ _ ?_
  unfold M_impl_Bank_take
  have l0 := H.len m1
  have l1 := H.len m2
  have l2 := H.len m3
  have l3 := H.len m4
  have l4 := H.len m5
  rw [w.coins] at l0
  rw [w.ways] at l1
  rw [w.kept] at l2
  rw [w.heard] at l3
  rw [w.found] at l4
  have hn := w.le
  have hnn := mul_le5 hn
  refine ⟨fun hp => ?_, fun hp => ?_⟩
  · have hp : item > 0 := by simpa using hp
    refine ⟨_, _, _, H.cell m0 rfl, ?_⟩
    obtain ⟨b, o, ha, hc, hr⟩ := H.intAt m1 (i := t) (by rw [w.coins]; exact ht)
    refine ⟨b, o, ha, by omega, by omega, _, hc, ?_⟩
    obtain ⟨b', o', row, ha', r, hl, st⟩ := H.p1.setInt (i := t) (by rw [w.coins]; exact ht)
    refine ⟨b', o', ha', by omega, by omega, _, row, r, hl, ?_⟩
    intro h9 e9
    have H := (st _ (inI64_wrap _)).at e9
    rw [getD_get 0] at H
    have H := H.q1
    intro K hK
    refine ⟨_, _, _, H.cell m0 rfl, ?_⟩
    obtain ⟨b2, o2, ha2, hc2, _⟩ := H.intAt m3 (i := t) (by rw [w.kept]; exact ht)
    refine ⟨b2, o2, ha2, by omega, by omega, _, hc2, ?_⟩
    rw [getD_get 0]
    have fin : ∀ tt : Bool, tt = (decide (x.kept.getD t 0 ≥ 0) && !(x.heard.getD t []).getD f false) → K [.bool tt] h9 := by
      intro tt htt
      refine hK _ _ ⟨fun hh => ?_, fun hh => ?_⟩
      · have hcond : x.kept.getD t 0 ≥ 0 ∧ (x.heard.getD t []).getD f false = false := by rw [hh] at htt; simpa only [Bool.true_eq, Bool.and_eq_true, decide_eq_true_eq, Bool.not_eq_true'] using htt
        refine ⟨_, _, _, H.cell m0 rfl, ?_⟩
        obtain ⟨b3, o3, ai, ni, ci, ha3, hc3, H⟩ := H.p5.inner (i := f) (by rw [w.found]; exact hf)
        have l9 := (H.len m0).1
        rw [getD_get [], w.frow f hf] at l9
        refine ⟨b3, o3, ha3, by omega, by omega, _, _, _, hc3, ?_⟩
        obtain ⟨b4, o4, ha4, hc4, _⟩ := H.intAt m0 (i := t) (by rw [getD_get [], w.frow f hf]; exact ht)
        refine ⟨b4, o4, ha4, by omega, by omega, _, hc4, ?_⟩
        obtain ⟨b5, o5, row5, ha5, r5, hl5, st5⟩ := H.setInt (i := t) (by rw [getD_get [], w.frow f hf]; exact ht)
        refine ⟨b5, o5, ha5, by omega, by omega, _, row5, r5, hl5, ?_⟩
        intro h19 e19
        have H := (st5 _ (inI64_wrap _)).at e19
        have H := H.closeSl.q5
        simp only [getD_get (0 : Int), getD_get ([] : List Int)] at H
        have e : takeD n x f t item = { x with coins := x.coins.set t (IntKind.i64.wrap (x.coins.getD t 0 + item)), found := x.found.set f ((x.found.getD f []).set t (IntKind.i64.wrap ((x.found.getD f []).getD t 0 + item))) } := by
          unfold takeD; rw [if_pos hp]; dsimp only; rw [if_pos hcond]
        rw [e]
        exact ⟨rfl, H⟩
      · have hcond : ¬ (x.kept.getD t 0 ≥ 0 ∧ (x.heard.getD t []).getD f false = false) := by
          intro hc
          rw [hh, decide_eq_true hc.1, hc.2] at htt
          exact absurd htt (by decide)
        have e : takeD n x f t item = { x with coins := x.coins.set t (IntKind.i64.wrap (x.coins.getD t 0 + item)) } := by
          unfold takeD; rw [if_pos hp]; dsimp only; rw [if_neg hcond]
        rw [e]
        exact ⟨rfl, H⟩
    refine ⟨fun hk => ?_, fun hk => fin _ (by rw [hk]; rfl)⟩
    refine ⟨_, _, _, H.cell m0 rfl, ?_⟩
    obtain ⟨b6, o6, ai, ni, ci, ha6, hc6, H6⟩ := H.p4.inner (i := t) (by rw [w.heard]; exact ht)
    have l9 := (H6.len m0).1
    rw [getD_get [], w.hrow t ht] at l9
    obtain ⟨b7, o7, ha7, hc7⟩ := H6.boolAt m0 (i := f) (by rw [getD_get [], w.hrow t ht]; exact hf)
    refine ⟨b6, o6, ha6, by omega, by omega, _, _, _, hc6, b7, o7, ha7, by omega, by omega, _, hc7, fin _ ?_⟩
    simp only [getD_get false, getD_get ([] : List Bool), hk]; rfl
  · have hp : ¬ item > 0 := by simpa using hp
    intro K hK
    refine ⟨_, _, _, H.cell m0 rfl, ?_⟩
    obtain ⟨b2, o2, ha2, hc2, _⟩ := H.intAt m3 (i := t) (by rw [w.kept]; exact ht)
    refine ⟨b2, o2, ha2, by omega, by omega, _, hc2, ?_⟩
    rw [getD_get 0]
    have fin : ∀ (g : Heap) (y : BankD) (j : Nat), WfB n j y → y = (if x.kept.getD t 0 < 0 then recordD n x t else x) → Own g (rowA b0 ty_impl_Bank d.cells :: bankL y d L) → K [] g := by
      intro g y j wy hy H
      have l3 := H.len m4
      rw [wy.heard] at l3
      refine hK _ ?_
      refine ⟨_, _, _, H.cell m0 rfl, ?_⟩
      obtain ⟨b3, o3, ai, ni, ci, ha3, hc3, H⟩ := H.p4.inner (i := t) (by rw [wy.heard]; exact ht)
      have l9 := (H.len m0).1
      rw [getD_get [], wy.hrow t ht] at l9
      refine ⟨b3, o3, ha3, by omega, by omega, _, _, _, hc3, ?_⟩
      obtain ⟨b5, o5, row5, ha5, r5, hl5, st5⟩ := H.setBool (i := f) (by rw [getD_get [], wy.hrow t ht]; exact hf)
      refine ⟨b5, o5, ha5, by omega, by omega, _, row5, r5, hl5, ?_⟩
      intro h19 e19
      have H := Own.at (st5 true) e19
      have H := H.closeSl.q4
      rw [getD_get []] at H
      have e : takeD n x f t item = { y with heard := y.heard.set t ((y.heard.getD t []).set f true) } := by
        unfold takeD; rw [if_neg hp]; dsimp only; rw [← hy]
      rw [e]
      exact ⟨rfl, H⟩
    refine ⟨fun hk => ?_, fun hk => fin _ _ _ w (by rw [if_neg (by simpa using hk)]) H⟩
    refine (record_ok w ht hi H).mono ?_
    rintro v g ⟨rfl, H⟩
    exact ⟨rfl, fin _ _ _ (w.record ht) (by rw [if_pos (by simpa using hk)]) H⟩

theorem l12Take_ok {x : BankD} {d : BankH} {n f t i : Nat} (w : WfB n i x) (hf : f < n) (ht : t < n) (hft : f ≠ t) (hi : i ≤ 1000) (hne : x.ways.getD (f * n + t) [] ≠ []) (H : Own h (bankL x d L)) :
    CallsH PP fn_spec_l12Take [.agg ⟨d.cells⟩, .int .i64 f, .int .i64 t] h fun v h' => v = .agg ⟨d.cells⟩ ∧
      Own h' (bankL (takeD n { x with ways := x.ways.set (f * n + t) ((x.ways.getD (f * n + t) []).drop 1) } f t ((x.ways.getD (f * n + t) []).getD 0 0)) d L) := by
  refine calls_spec_l12Take _ _ _ _ _ _ _ _ _ _ _ _ _ _ _ _ _ ?_
  unfold M_spec_l12Take
  intro h8 e8 h9 e9
  have H := ((H.newE e8).newE e9).q6
  have l0 := H.len m1
  have l1 := H.len m2
  have l2 := H.len m3
  have l3 := H.len m4
  have l4 := H.len m5
  rw [w.coins] at l0
  rw [w.ways] at l1
  rw [w.kept] at l2
  rw [w.heard] at l3
  rw [w.found] at l4
  have hn := w.le
  have hnn := mul_le5 hn
  have hix := idx_lt hf ht
  have hpos : 0 < (x.ways.getD (f * n + t) []).length := List.length_pos_iff.2 hne
  have hway := w.way (f * n + t)
  refine ⟨_, _, _, H.cell m0 rfl, _, _, _, H.cell m0 rfl, ?_⟩
  rw [l0.1, wrapIdx (by omega)]
  obtain ⟨b1, o1, ai, ni, ci, ha1, hc1, H⟩ := H.p2.inner (i := f * n + t) (by rw [w.ways]; exact hix)
  refine ⟨b1, o1, ha1, by omega, by omega, _, _, _, hc1, ?_⟩
  have l9 := H.len m0
  rw [getD_get []] at l9
  obtain ⟨b2, o2, ha2, hc2, hr2⟩ := H.intAt m0 (i := 0) (by rw [getD_get []]; exact hpos)
  simp only [getD_get (0 : Int), getD_get ([] : List Int)] at hc2
  generalize (x.ways.getD (f * n + t) []).getD 0 0 = item at hc2 ⊢
  refine ⟨b2, o2, ha2, by omega, by omega, _, hc2, ?_⟩
  refine ⟨_, _, _, H.cell m2 rfl, _, _, _, H.cell m2 rfl, b1, o1, ha1, by omega, by omega, _, _, _, H.innerCell m1, by omega, by omega, by omega, ?_⟩
  intro h20 e20
  have H := (H.made0 kI).at e20
  refine ⟨H.innerCell m2, H.cell m3 rfl, H.cell m3 rfl, ?_⟩
  have H := H.p1.sub (l := 1) (by omega)
  refine H.p1.appendSl (flatI _) m0 (by omega) rfl fun a' c' h21 H => ?_
  refine ⟨H.cell m3 rfl, b1, o1, ha1, by omega, by omega, ?_⟩
  obtain ⟨row1, r1, hl1, st1⟩ := H.p2.innerPut
  refine ⟨_, row1, r1, hl1, ?_⟩
  intro h24 e24
  have H := Own.at (st1 _ _ _) e24
  have H := H.p1.closeSl.p1.drop.q2
  simp only [List.nil_append, getD_get ([] : List Int)] at H
  have w1 := w.pop hf ht (y := (x.ways.getD (f * n + t) []).drop 1) (by rw [List.length_drop]; omega) (fun e => absurd e hft)
  have H : Own h24 (rowA h.size ty_impl_Bank d.cells :: bankL { x with ways := x.ways.set (f * n + t) ((x.ways.getD (f * n + t) []).drop 1) } d (rowA h8.size ty_impl_Bank BankH.nil.cells :: L)) := H
  revert H w1
  generalize ({ x with ways := x.ways.set (f * n + t) ((x.ways.getD (f * n + t) []).drop 1) } : BankD) = x1
  intro w1 H
  refine ⟨fun hp => ?_, fun hp => ?_⟩
  · have hp : item > 0 := by simpa using hp
    refine ⟨_, _, _, H.cell m0 rfl, ?_⟩
    obtain ⟨b, o, ha, hc, hr⟩ := H.intAt m1 (i := t) (by rw [w1.coins]; exact ht)
    refine ⟨b, o, ha, by omega, by omega, _, hc, ?_⟩
    obtain ⟨b', o', row, ha', r, hl, st⟩ := H.p1.setInt (i := t) (by rw [w1.coins]; exact ht)
    refine ⟨b', o', ha', by omega, by omega, _, row, r, hl, ?_⟩
    intro h9 e9
    have H := (st _ (inI64_wrap _)).at e9
    rw [getD_get 0] at H
    have H := H.q1
    intro K hK
    refine ⟨_, _, _, H.cell m0 rfl, ?_⟩
    obtain ⟨b2, o2, ha2, hc2, _⟩ := H.intAt m3 (i := t) (by rw [w1.kept]; exact ht)
    refine ⟨b2, o2, ha2, by omega, by omega, _, hc2, ?_⟩
    rw [getD_get 0]
    have fin : ∀ tt : Bool, tt = (decide (x1.kept.getD t 0 ≥ 0) && !(x1.heard.getD t []).getD f false) → K [.bool tt] h9 := by
      intro tt htt
      refine hK _ _ ⟨fun hh => ?_, fun hh => ?_⟩
      · have hcond : x1.kept.getD t 0 ≥ 0 ∧ (x1.heard.getD t []).getD f false = false := by rw [hh] at htt; simpa only [Bool.true_eq, Bool.and_eq_true, decide_eq_true_eq, Bool.not_eq_true'] using htt
        refine ⟨_, _, _, H.cell m0 rfl, ?_⟩
        obtain ⟨b3, o3, ai, ni, ci, ha3, hc3, H⟩ := H.p5.inner (i := f) (by rw [w1.found]; exact hf)
        have l9 := (H.len m0).1
        rw [getD_get [], w1.frow f hf] at l9
        refine ⟨b3, o3, ha3, by omega, by omega, _, _, _, hc3, ?_⟩
        obtain ⟨b4, o4, ha4, hc4, _⟩ := H.intAt m0 (i := t) (by rw [getD_get [], w1.frow f hf]; exact ht)
        refine ⟨b4, o4, ha4, by omega, by omega, _, hc4, ?_⟩
        obtain ⟨b5, o5, row5, ha5, r5, hl5, st5⟩ := H.setInt (i := t) (by rw [getD_get [], w1.frow f hf]; exact ht)
        refine ⟨b5, o5, ha5, by omega, by omega, _, row5, r5, hl5, ?_⟩
        intro h19 e19
        have H := (st5 _ (inI64_wrap _)).at e19
        have H := H.closeSl.q5
        simp only [getD_get (0 : Int), getD_get ([] : List Int)] at H
        have e : takeD n x1 f t item = { x1 with coins := x1.coins.set t (IntKind.i64.wrap (x1.coins.getD t 0 + item)), found := x1.found.set f ((x1.found.getD f []).set t (IntKind.i64.wrap ((x1.found.getD f []).getD t 0 + item))) } := by
          unfold takeD; rw [if_pos hp]; dsimp only; rw [if_pos hcond]
        rw [e]
        refine ⟨_, _, _, H.cell m0 rfl, _, _, _, H.cell m0 rfl, _, _, _, H.cell m0 rfl, _, _, _, H.cell m0 rfl, _, _, _, H.cell m0 rfl, _, _, H.row m6, by simp [BankH.cells, BankH.nil], ?_⟩
        intro g' e'
        have H := H.p6.putE e'
        exact ⟨_, _, _, H.cell m0 rfl, _, _, _, H.cell m0 rfl, _, _, _, H.cell m0 rfl, _, _, _, H.cell m0 rfl, _, _, _, H.cell m0 rfl, rfl, H.drop.drop⟩
      · have hcond : ¬ (x1.kept.getD t 0 ≥ 0 ∧ (x1.heard.getD t []).getD f false = false) := by
          intro hc
          rw [hh, decide_eq_true hc.1, hc.2] at htt
          exact absurd htt (by decide)
        have e : takeD n x1 f t item = { x1 with coins := x1.coins.set t (IntKind.i64.wrap (x1.coins.getD t 0 + item)) } := by
          unfold takeD; rw [if_pos hp]; dsimp only; rw [if_neg hcond]
        rw [e]
        refine ⟨_, _, _, H.cell m0 rfl, _, _, _, H.cell m0 rfl, _, _, _, H.cell m0 rfl, _, _, _, H.cell m0 rfl, _, _, _, H.cell m0 rfl, _, _, H.row m6, by simp [BankH.cells, BankH.nil], ?_⟩
        intro g' e'
        have H := H.p6.putE e'
        exact ⟨_, _, _, H.cell m0 rfl, _, _, _, H.cell m0 rfl, _, _, _, H.cell m0 rfl, _, _, _, H.cell m0 rfl, _, _, _, H.cell m0 rfl, rfl, H.drop.drop⟩
    refine ⟨fun hk => ?_, fun hk => fin _ (by rw [hk]; rfl)⟩
    refine ⟨_, _, _, H.cell m0 rfl, ?_⟩
    obtain ⟨b6, o6, ai, ni, ci, ha6, hc6, H6⟩ := H.p4.inner (i := t) (by rw [w1.heard]; exact ht)
    have l9 := (H6.len m0).1
    rw [getD_get [], w1.hrow t ht] at l9
    obtain ⟨b7, o7, ha7, hc7⟩ := H6.boolAt m0 (i := f) (by rw [getD_get [], w1.hrow t ht]; exact hf)
    refine ⟨b6, o6, ha6, by omega, by omega, _, _, _, hc6, b7, o7, ha7, by omega, by omega, _, hc7, fin _ ?_⟩
    simp only [getD_get false, getD_get ([] : List Bool), hk]; rfl
  · have hp : ¬ item > 0 := by simpa using hp
    intro K hK
    refine ⟨_, _, _, H.cell m0 rfl, ?_⟩
    obtain ⟨b2, o2, ha2, hc2, _⟩ := H.intAt m3 (i := t) (by rw [w1.kept]; exact ht)
    refine ⟨b2, o2, ha2, by omega, by omega, _, hc2, ?_⟩
    rw [getD_get 0]
    have fin : ∀ (g : Heap) (y : BankD) (j : Nat), WfB n j y → y = (if x1.kept.getD t 0 < 0 then recordD n x1 t else x1) → Own g (rowA h.size ty_impl_Bank d.cells :: bankL y d (rowA h8.size ty_impl_Bank BankH.nil.cells :: L)) → K [] g := by
      intro g y j wy hy H
      have l3 := H.len m4
      rw [wy.heard] at l3
      refine hK _ ?_
      refine ⟨_, _, _, H.cell m0 rfl, ?_⟩
      obtain ⟨b3, o3, ai, ni, ci, ha3, hc3, H⟩ := H.p4.inner (i := t) (by rw [wy.heard]; exact ht)
      have l9 := (H.len m0).1
      rw [getD_get [], wy.hrow t ht] at l9
      refine ⟨b3, o3, ha3, by omega, by omega, _, _, _, hc3, ?_⟩
      obtain ⟨b5, o5, row5, ha5, r5, hl5, st5⟩ := H.setBool (i := f) (by rw [getD_get [], wy.hrow t ht]; exact hf)
      refine ⟨b5, o5, ha5, by omega, by omega, _, row5, r5, hl5, ?_⟩
      intro h19 e19
      have H := Own.at (st5 true) e19
      have H := H.closeSl.q4
      rw [getD_get []] at H
      have e : takeD n x1 f t item = { y with heard := y.heard.set t ((y.heard.getD t []).set f true) } := by
        unfold takeD; rw [if_neg hp]; dsimp only; rw [← hy]
      rw [e]
      refine ⟨_, _, _, H.cell m0 rfl, _, _, _, H.cell m0 rfl, _, _, _, H.cell m0 rfl, _, _, _, H.cell m0 rfl, _, _, _, H.cell m0 rfl, _, _, H.row m6, by simp [BankH.cells, BankH.nil], ?_⟩
      intro g' e'
      have H := H.p6.putE e'
      exact ⟨_, _, _, H.cell m0 rfl, _, _, _, H.cell m0 rfl, _, _, _, H.cell m0 rfl, _, _, _, H.cell m0 rfl, _, _, _, H.cell m0 rfl, rfl, H.drop.drop⟩
    refine ⟨fun hk => ?_, fun hk => fin _ _ _ w1 (by rw [if_neg (by simpa using hk)]) H⟩
    refine ⟨_, _, _, H.cell m0 rfl, _, _, _, H.cell m0 rfl, _, _, _, H.cell m0 rfl, _, _, _, H.cell m0 rfl, _, _, _, H.cell m0 rfl, (l12Picture_ok w1 ht hi H.q5).mono ?_⟩
    rintro v g ⟨rfl, H⟩
    have H := H.p5
    refine ⟨_, _, _, _, _, _, _, _, _, _, _, _, _, _, _, rfl, _, _, H.row m0, by simp [BankH.cells], ?_⟩
    intro g' e'
    exact fin _ _ _ (w1.record ht) (by rw [if_pos (by simpa using hk)]) (H.putE e')
end
end Go.Proofs.Ytjmhahjmbmiepaa.D
