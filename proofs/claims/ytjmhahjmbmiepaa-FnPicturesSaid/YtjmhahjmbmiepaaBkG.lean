/- Contracts: the reference's new bank; a bank of one's own. -/
import Derived.Test.YtjmhahjmbmiepaaBkF
namespace Go.Proofs.Ytjmhahjmbmiepaa.D
open Go
set_option linter.unusedVariables false
set_option linter.unusedSimpArgs false

section
variable {h : Heap} {L : List Asn}

theorem NewBank_ok {xs : List Int} {a : Option Addr} {n c : Nat} (hmax : n ≤ 1048576) (H : Own h (slA kI xs a n c :: L)) :
    CallsH PP fn_spec_NewBank [.slice a n c] h fun v h' => ∃ d : BankH, v = .tuple ⟨[.agg ⟨d.cells⟩, .bool (coinsOk xs)]⟩ ∧
      (coinsOk xs = true → Own h' (bankL (newD n xs) d (slA kI xs a n c :: L))) ∧ (coinsOk xs = false → d = BankH.nil ∧ Own h' (slA kI xs a n c :: L)) := by
  refine calls_spec_NewBank _ _ _ ?_
  unfold M_spec_NewBank
  have hlen := (H.len m0).1
  intro h2 e2
  have H := H.newE e2
  refine (l1In_ok _ _ _).mono ?_
  rintro v h3 ⟨rfl, rfl⟩
  refine ⟨_, rfl, fun hin => ?_, fun hout => ?_⟩
  · obtain ⟨F, hx⟩ := H.sl m1
    refine (l1All_ok hx 0 50).mono ?_
    rintro v h5 ⟨rfl, rfl⟩
    refine ⟨_, rfl, fun hno => ?_, fun hall => ?_⟩
    · have hc : coinsOk xs = false := by
        unfold coinsOk
        rw [← hlen, of_not hin]
        simpa using hno
      refine ⟨_, _, H.row m0, by simp, ?_⟩
      intro g1 e1
      have H := H.putE e1
      refine ⟨_, _, _, H.cell m0 rfl, _, _, _, H.cell m0 rfl, _, _, _, H.cell m0 rfl, _, _, _, H.cell m0 rfl, _, _, _, H.cell m0 rfl, BankH.nil, by rw [hc]; rfl, (fun hh => by rw [hc] at hh; cases hh), fun _ => ⟨rfl, H.drop⟩⟩
    · have hc : coinsOk xs = true := by
        unfold coinsOk
        rw [← hlen, of_not hin]
        simpa using hall
      have hin := of_not hin
      rw [inR_iff] at hin
      have hp : 1 ≤ n := by omega
      have hn : n ≤ 5 := by omega
      have hnn := mul_le5 hn
      intro K hK
      have fin : ∀ (g : Heap) (b : Nat) (d0 d1 : Hd), d0.n = n → Own g (rowA b ty_impl_Bank [d0.v, d1.v, .slice none 0 0, .slice none 0 0, .slice none 0 0] :: slA kI xs d0.a d0.n d0.c :: slA kIS (List.replicate (n * n) []) d1.a d1.n d1.c :: rowA h.size ty_impl_Bank [.slice none 0 0, .slice none 0 0, .slice none 0 0, .slice none 0 0, .slice none 0 0] :: slA kI xs a n c :: L) → K [.pointer (some ⟨b, 0, none⟩)] g := by
        intro g b d0 d1 hd0 H
        refine hK g b 0 ?_
        refine ⟨UpI n fun i g => ∃ d2 d3 d4 : Hd, Own g (rowA b ty_impl_Bank [d0.v, d1.v, d2.v, d3.v, d4.v] :: slA kI (List.replicate i (-1)) d2.a d2.n d2.c :: slA kBS (List.replicate i (List.replicate n false)) d3.a d3.n d3.c :: slA kIS (List.replicate i (List.replicate n 0)) d4.a d4.n d4.c ::
          slA kI xs d0.a d0.n d0.c :: slA kIS (List.replicate (n * n) []) d1.a d1.n d1.c :: rowA h.size ty_impl_Bank [.slice none 0 0, .slice none 0 0, .slice none 0 0, .slice none 0 0, .slice none 0 0] :: slA kI xs a n c :: L), UpM n, UpI.start ⟨Hd.nil, Hd.nil, Hd.nil, (((H.slNil kIS).slNil kBS).slNil kI).p3⟩, ?_⟩
        intro g' x hI
        obtain ⟨i, hi, rfl, d2, d3, d4, H⟩ := hI.elim
        have l2 := (H.len m1).1
        have l3 := (H.len m2).1
        have l4 := (H.len m3).1
        rw [List.length_replicate] at l2 l3 l4
        refine ⟨fun hlt => ?_, fun hge => ?_⟩
        · have hlt := lt_of_dec hlt
          refine ⟨_, _, _, H.cell m0 rfl, ?_⟩
          intro g2 e1
          have H := H.newE e1
          refine (H.p2).append1 (y := -1) m0 ⟨rfl, rfl, by simp [inI64]⟩ (by omega) rfl fun a3 c4 g5 H => ?_
          refine ⟨_, _, H.row m2, by simp, ?_⟩
          intro g7 e6
          have H := (H.p2).putE e6
          have H := (H.p2).drop
          refine ⟨_, _, _, H.cell m0 rfl, ?_⟩
          refine ⟨by omega, by omega, by omega, by omega, ?_⟩
          intro g9 e8
          have H := (H.made kB false (fun g => repB g) (m := n) (by omega)).at e8
          (repeat (refine ⟨by first | exact H.cell m1 rfl, ?_⟩))
          intro g11 e10
          have H := H.newE e10
          (repeat (refine ⟨by first | exact H.cell m2 rfl, ?_⟩))
          refine (H.p1.p4).appendIn m0 (by omega) rfl fun a12 c13 g14 H => ?_
          refine ⟨_, _, H.row m2, by simp, ?_⟩
          intro g16 e15
          have H := (H.p2).putE e15
          have H := (H.p2).drop
          refine ⟨_, _, _, H.cell m0 rfl, ?_⟩
          refine ⟨by omega, by omega, by omega, by omega, ?_⟩
          intro g18 e17
          have H := (H.made kI 0 (fun g => repI g) (m := n) (by omega)).at e17
          (repeat (refine ⟨by first | exact H.cell m1 rfl, ?_⟩))
          intro g20 e19
          have H := H.newE e19
          (repeat (refine ⟨by first | exact H.cell m2 rfl, ?_⟩))
          refine (H.p1.p5).appendIn m0 (by omega) rfl fun a21 c22 g23 H => ?_
          refine ⟨_, _, H.row m2, by simp, ?_⟩
          intro g25 e24
          have H := (H.p2).putE e24
          have H := (H.p2).drop
          refine UpI.next (by omega) hlt ⟨⟨a3, d2.n + 1, c4⟩, ⟨a12, d3.n + 1, c13⟩, ⟨a21, d4.n + 1, c22⟩, ?_⟩
          rw [List.replicate_succ', List.replicate_succ', List.replicate_succ']
          exact (H.p7.p7.p7.p7.p5.p6.p7.p7)
        · have hge := ge_of_dec hge
          have : i = n := by omega
          subst this
          refine ⟨_, _, _, H.cell m0 rfl, _, _, _, H.cell m0 rfl, _, _, _, H.cell m0 rfl, _, _, _, H.cell m0 rfl, _, _, _, H.cell m0 rfl, _, _, H.row m6, by simp, ?_⟩
          intro g1 e1
          have H := H.p6.putE e1
          refine ⟨_, _, _, H.cell m0 rfl, _, _, _, H.cell m0 rfl, _, _, _, H.cell m0 rfl, _, _, _, H.cell m0 rfl, _, _, _, H.cell m0 rfl, ⟨d0, d1, d2, d3, d4⟩, by rw [hc]; rfl, fun _ => ?_, fun hh => by rw [hc] at hh; cases hh⟩
          exact (H.p7.p5.p5.p5.p7.p7).r6.r6
      rw [wrapSq hn]
      refine ⟨?_, ?_⟩
      · intro g27 e26
        have H := (H.made0 kI).at e26
        refine ⟨?_, ?_⟩
        · refine (H).appendSl (flatI _) m1 (by omega) rfl fun a28 c29 g30 H => ?_
          rw [List.nil_append] at H
          refine ⟨?_, ?_⟩
          · refine ⟨by omega, by omega, by omega, by omega, ?_⟩
            intro g32 e31
            have H := (H.made kIS [] (fun g => repN _ _ g) (m := n * n) (by omega)).at e31
            intro g34 e33
            have H := H.newE e33
            refine ⟨_, _, H.row m0, by simp, ?_⟩
            intro g36 e35
            have H := (H).putE e35
            exact fin _ _ ⟨a28, 0 + n, c29⟩ ⟨_, _, _⟩ (Nat.zero_add n) (H.p4.p4.p3.p4.p4)
          · intro g38 e37
            have H := H.newE e37
            refine ⟨by omega, by omega, by omega, by omega, ?_⟩
            intro g40 e39
            have H := (H.made kIS [] (fun g => repN _ _ g) (m := n * n) (by omega)).at e39
            refine ⟨_, _, H.row m1, by simp, ?_⟩
            intro g42 e41
            have H := (H.p1).putE e41
            exact fin _ _ ⟨a28, 0 + n, c29⟩ ⟨_, _, _⟩ (Nat.zero_add n) (H.p4.p4.p3.p4.p4)
        · refine ⟨?_, ?_⟩
          · refine ⟨by omega, by omega, by omega, by omega, ?_⟩
            intro g44 e43
            have H := (H.made kIS [] (fun g => repN _ _ g) (m := n * n) (by omega)).at e43
            refine ⟨?_, ?_⟩
            · refine (H.p1).appendSl (flatI _) m2 (by omega) rfl fun a45 c46 g47 H => ?_
              rw [List.nil_append] at H
              intro g49 e48
              have H := H.newE e48
              refine ⟨_, _, H.row m0, by simp, ?_⟩
              intro g51 e50
              have H := (H).putE e50
              exact fin _ _ ⟨a45, 0 + n, c46⟩ ⟨_, _, _⟩ (Nat.zero_add n) (H.p4.p4.p4.p4.p4)
            · intro g53 e52
              have H := H.newE e52
              refine (H.p2).appendSl (flatI _) m3 (by omega) rfl fun a54 c55 g56 H => ?_
              rw [List.nil_append] at H
              refine ⟨_, _, H.row m1, by simp, ?_⟩
              intro g58 e57
              have H := (H.p1).putE e57
              exact fin _ _ ⟨a54, 0 + n, c55⟩ ⟨_, _, _⟩ (Nat.zero_add n) (H.p4.p4.p4.p4.p4)
          · intro g60 e59
            have H := H.newE e59
            refine ⟨?_, ?_⟩
            · refine (H.p1).appendSl (flatI _) m2 (by omega) rfl fun a61 c62 g63 H => ?_
              rw [List.nil_append] at H
              refine ⟨by omega, by omega, by omega, by omega, ?_⟩
              intro g65 e64
              have H := (H.made kIS [] (fun g => repN _ _ g) (m := n * n) (by omega)).at e64
              refine ⟨_, _, H.row m2, by simp, ?_⟩
              intro g67 e66
              have H := (H.p2).putE e66
              exact fin _ _ ⟨a61, 0 + n, c62⟩ ⟨_, _, _⟩ (Nat.zero_add n) (H.p4.p4.p3.p4.p4)
            · refine ⟨by omega, by omega, by omega, by omega, ?_⟩
              intro g69 e68
              have H := (H.made kIS [] (fun g => repN _ _ g) (m := n * n) (by omega)).at e68
              refine (H.p2).appendSl (flatI _) m3 (by omega) rfl fun a70 c71 g72 H => ?_
              rw [List.nil_append] at H
              refine ⟨_, _, H.row m2, by simp, ?_⟩
              intro g74 e73
              have H := (H.p2).putE e73
              exact fin _ _ ⟨a70, 0 + n, c71⟩ ⟨_, _, _⟩ (Nat.zero_add n) (H.p4.p4.p4.p4.p4)
      · refine ⟨?_, ?_⟩
        · refine ⟨by omega, by omega, by omega, by omega, ?_⟩
          intro g76 e75
          have H := (H.made kIS [] (fun g => repN _ _ g) (m := n * n) (by omega)).at e75
          refine ⟨?_, ?_⟩
          · intro g78 e77
            have H := (H.made0 kI).at e77
            refine ⟨?_, ?_⟩
            · refine (H).appendSl (flatI _) m2 (by omega) rfl fun a79 c80 g81 H => ?_
              rw [List.nil_append] at H
              intro g83 e82
              have H := H.newE e82
              refine ⟨_, _, H.row m0, by simp, ?_⟩
              intro g85 e84
              have H := (H).putE e84
              exact fin _ _ ⟨a79, 0 + n, c80⟩ ⟨_, _, _⟩ (Nat.zero_add n) (H.p4.p4.p4.p4.p4)
            · intro g87 e86
              have H := H.newE e86
              refine (H.p1).appendSl (flatI _) m3 (by omega) rfl fun a88 c89 g90 H => ?_
              rw [List.nil_append] at H
              refine ⟨_, _, H.row m1, by simp, ?_⟩
              intro g92 e91
              have H := (H.p1).putE e91
              exact fin _ _ ⟨a88, 0 + n, c89⟩ ⟨_, _, _⟩ (Nat.zero_add n) (H.p4.p4.p4.p4.p4)
          · intro g94 e93
            have H := H.newE e93
            intro g96 e95
            have H := (H.made0 kI).at e95
            refine (H).appendSl (flatI _) m3 (by omega) rfl fun a97 c98 g99 H => ?_
            rw [List.nil_append] at H
            refine ⟨_, _, H.row m1, by simp, ?_⟩
            intro g101 e100
            have H := (H.p1).putE e100
            exact fin _ _ ⟨a97, 0 + n, c98⟩ ⟨_, _, _⟩ (Nat.zero_add n) (H.p4.p4.p4.p4.p4)
        · intro g103 e102
          have H := H.newE e102
          refine ⟨?_, ?_⟩
          · intro g105 e104
            have H := (H.made0 kI).at e104
            refine ⟨?_, ?_⟩
            · refine (H).appendSl (flatI _) m2 (by omega) rfl fun a106 c107 g108 H => ?_
              rw [List.nil_append] at H
              refine ⟨by omega, by omega, by omega, by omega, ?_⟩
              intro g110 e109
              have H := (H.made kIS [] (fun g => repN _ _ g) (m := n * n) (by omega)).at e109
              refine ⟨_, _, H.row m2, by simp, ?_⟩
              intro g112 e111
              have H := (H.p2).putE e111
              exact fin _ _ ⟨a106, 0 + n, c107⟩ ⟨_, _, _⟩ (Nat.zero_add n) (H.p4.p4.p3.p4.p4)
            · refine ⟨by omega, by omega, by omega, by omega, ?_⟩
              intro g114 e113
              have H := (H.made kIS [] (fun g => repN _ _ g) (m := n * n) (by omega)).at e113
              refine (H.p1).appendSl (flatI _) m3 (by omega) rfl fun a115 c116 g117 H => ?_
              rw [List.nil_append] at H
              refine ⟨_, _, H.row m2, by simp, ?_⟩
              intro g119 e118
              have H := (H.p2).putE e118
              exact fin _ _ ⟨a115, 0 + n, c116⟩ ⟨_, _, _⟩ (Nat.zero_add n) (H.p4.p4.p4.p4.p4)
          · refine ⟨by omega, by omega, by omega, by omega, ?_⟩
            intro g121 e120
            have H := (H.made kIS [] (fun g => repN _ _ g) (m := n * n) (by omega)).at e120
            intro g123 e122
            have H := (H.made0 kI).at e122
            refine (H).appendSl (flatI _) m3 (by omega) rfl fun a124 c125 g126 H => ?_
            rw [List.nil_append] at H
            refine ⟨_, _, H.row m2, by simp, ?_⟩
            intro g128 e127
            have H := (H.p2).putE e127
            exact fin _ _ ⟨a124, 0 + n, c125⟩ ⟨_, _, _⟩ (Nat.zero_add n) (H.p4.p4.p4.p4.p4)
  · have hc : coinsOk xs = false := by
      unfold coinsOk
      rw [← hlen]
      have : inR n 1 5 = false := by simpa using hout
      rw [this]; rfl
    refine ⟨_, _, H.row m0, by simp, ?_⟩
    intro g1 e1
    have H := H.putE e1
    exact ⟨_, _, _, H.cell m0 rfl, _, _, _, H.cell m0 rfl, _, _, _, H.cell m0 rfl, _, _, _, H.cell m0 rfl, _, _, _, H.cell m0 rfl, BankH.nil, by rw [hc]; rfl, (fun hh => by rw [hc] at hh; cases hh), fun _ => ⟨rfl, H.drop⟩⟩

theorem l12Own_ok {x : BankD} {d : BankH} {n i0 : Nat} (w : WfB n i0 x) (hi0 : i0 ≤ 1000) (H : Own h (bankL x d L)) :
    CallsH PP fn_spec_l12Own [.agg ⟨d.cells⟩] h fun v h' => ∃ d' : BankH, v = .agg ⟨d'.cells⟩ ∧ Own h' (bankL x d' (bankL x d L)) := by
  refine calls_spec_l12Own _ _ _ _ _ _ _ _ _ _ _ _ _ _ _ ?_
  unfold M_spec_l12Own
  have l0 := H.len m0
  have l1 := H.len m1
  have l2 := H.len m2
  have l3 := H.len m3
  have l4 := H.len m4
  rw [w.coins] at l0
  rw [w.ways] at l1
  rw [w.kept] at l2
  rw [w.heard] at l3
  rw [w.found] at l4
  have hn := w.le
  have hnn := mul_le5 hn
  intro h6 e6 h7 e7
  have H := (H.newE e6).newE e7
  intro K hK
  have fin : ∀ (g : Heap) (b : Nat) (d0 d2 : Hd), Own g (rowA b ty_impl_Bank [d0.v, .slice none 0 0, d2.v, .slice none 0 0, .slice none 0 0] :: slA kI x.coins d0.a d0.n d0.c :: slA kI x.kept d2.a d2.n d2.c :: rowA h6.size ty_impl_Bank [.slice none 0 0, .slice none 0 0, .slice none 0 0, .slice none 0 0, .slice none 0 0] :: rowA h.size ty_impl_Bank d.cells :: bankL x d L) → K [.pointer (some ⟨b, 0, none⟩)] g := by
    intro g b d0 d2 H
    refine hK g b 0 ?_
    refine ⟨_, _, _, H.cell m4 rfl, ?_⟩
    refine ⟨UpI d.d1.n fun i g => ∃ d1 : Hd, Own g (rowA b ty_impl_Bank [d0.v, d1.v, d2.v, .slice none 0 0, .slice none 0 0] :: slA kIS (x.ways.take i) d1.a d1.n d1.c :: slA kI x.coins d0.a d0.n d0.c :: slA kI x.kept d2.a d2.n d2.c ::
      rowA h6.size ty_impl_Bank [.slice none 0 0, .slice none 0 0, .slice none 0 0, .slice none 0 0, .slice none 0 0] :: rowA h.size ty_impl_Bank d.cells :: bankL x d L), UpM d.d1.n, UpI.start ⟨Hd.nil, (H.slNil kIS).p1⟩, ?_⟩
    intro g' y hI
    obtain ⟨i, hi, rfl, d1, H⟩ := hI.elim
    have k1 := (H.len m1).1
    rw [List.length_take] at k1
    refine ⟨fun hlt => ?_, fun hge => ?_⟩
    · have hlt := lt_of_dec hlt
      have hii : i < x.ways.length := by rw [w.ways]; omega
      obtain ⟨b1, o1, ai, ni, ci, ha1, hc1, H⟩ := (H.p7).inner (i := i) hii
      have l9 := (H.len m0).1
      rw [getD_get []] at l9
      have hway := w.way i
      refine ⟨b1, o1, ha1, by omega, by omega, _, _, _, hc1, ?_⟩
      refine ⟨_, _, _, H.cell m2 rfl, ?_⟩
      intro g130 e129
      have H := (H.made0 kI).at e129
      (repeat (refine ⟨by first | exact H.cell m3 rfl, ?_⟩))
      refine (H).appendSl (flatI _) m0 (by omega) rfl fun a131 c132 g133 H => ?_
      (repeat (refine ⟨by first | exact H.cell m3 rfl, ?_⟩))
      intro g135 e134
      have H := H.newE e134
      (repeat (refine ⟨by first | exact H.cell m4 rfl, ?_⟩))
      refine (H.p1.p5).appendIn m0 (by omega) rfl fun a136 c137 g138 H => ?_
      refine ⟨_, _, H.row m4, by simp, ?_⟩
      intro g140 e139
      have H := (H.p4).putE e139
      have H := (H.p2).drop
      have H := Own.closeSl' hii (H.p3.p3)
      rw [List.nil_append] at H
      refine UpI.next (by omega) hlt ⟨⟨a136, d1.n + 1, c137⟩, ?_⟩
      rw [List.take_succ_eq_append_getElem hii]
      exact (H.p10.p10.p10.p3.p10.p10.p10.p10.p10.p10.p10)
    · have hge := ge_of_dec hge
      rw [List.take_of_length_le (by rw [w.ways]; omega)] at H
      refine ⟨_, _, _, H.cell m5 rfl, ?_⟩
      refine ⟨UpI d.d3.n fun i g => ∃ d3 d4 : Hd, Own g (rowA b ty_impl_Bank [d0.v, d1.v, d2.v, d3.v, d4.v] :: slA kBS (x.heard.take i) d3.a d3.n d3.c :: slA kIS (x.found.take i) d4.a d4.n d4.c :: slA kIS x.ways d1.a d1.n d1.c :: slA kI x.coins d0.a d0.n d0.c :: slA kI x.kept d2.a d2.n d2.c ::
        rowA h6.size ty_impl_Bank [.slice none 0 0, .slice none 0 0, .slice none 0 0, .slice none 0 0, .slice none 0 0] :: rowA h.size ty_impl_Bank d.cells :: bankL x d L), UpM d.d3.n, UpI.start ⟨Hd.nil, Hd.nil, ((H.slNil kIS).slNil kBS).p2⟩, ?_⟩
      intro g' y hI
      obtain ⟨i, hi, rfl, d3, d4, H⟩ := hI.elim
      have k3 := (H.len m1).1
      have k4 := (H.len m2).1
      rw [List.length_take] at k3 k4
      refine ⟨fun hlt => ?_, fun hge => ?_⟩
      · have hlt := lt_of_dec hlt
        have hii : i < x.heard.length := by rw [w.heard]; omega
        have hij : i < x.found.length := by rw [w.found]; omega
        have hin : i < n := by omega
        obtain ⟨b1, o1, ai, ni, ci, ha1, hc1, H⟩ := (H.p11).inner (i := i) hii
        have l9 := (H.len m0).1
        rw [getD_get [], w.hrow i hin] at l9
        refine ⟨_, _, _, H.cell m2 rfl, _, _, _, H.cell m9 rfl, b1, o1, ha1, by omega, by omega, _, _, _, hc1, ?_⟩
        intro g142 e141
        have H := (H.made0 kB).at e141
        (repeat (refine ⟨by first | exact H.innerCell m2 | exact H.cell m10 rfl | exact H.cell m3 rfl, ?_⟩))
        refine (H).appendSl (flatB _) m0 (by omega) rfl fun a143 c144 g145 H => ?_
        (repeat (refine ⟨by first | exact H.cell m3 rfl, ?_⟩))
        intro g147 e146
        have H := H.newE e146
        (repeat (refine ⟨by first | exact H.cell m4 rfl, ?_⟩))
        refine (H.p1.p5).appendIn m0 (by omega) rfl fun a148 c149 g150 H => ?_
        refine ⟨_, _, H.row m4, by simp, ?_⟩
        intro g152 e151
        have H := (H.p4).putE e151
        have H := (H.p2).drop
        have H := Own.closeSl' hii (H.p3.p3)
        rw [List.nil_append] at H
        obtain ⟨b1, o1, ai, ni, ci, ha1, hc1, H⟩ := (H.p12).inner (i := i) hij
        have l9 := (H.len m0).1
        rw [getD_get [], w.frow i hin] at l9
        refine ⟨_, _, _, H.cell m3 rfl, _, _, _, H.cell m10 rfl, b1, o1, ha1, by omega, by omega, _, _, _, hc1, ?_⟩
        intro g154 e153
        have H := (H.made0 kI).at e153
        (repeat (refine ⟨by first | exact H.innerCell m2 | exact H.cell m11 rfl | exact H.cell m4 rfl, ?_⟩))
        refine (H).appendSl (flatI _) m0 (by omega) rfl fun a155 c156 g157 H => ?_
        (repeat (refine ⟨by first | exact H.cell m4 rfl, ?_⟩))
        intro g159 e158
        have H := H.newE e158
        (repeat (refine ⟨by first | exact H.cell m5 rfl, ?_⟩))
        refine (H.p1.p7).appendIn m0 (by omega) rfl fun a160 c161 g162 H => ?_
        refine ⟨_, _, H.row m5, by simp, ?_⟩
        intro g164 e163
        have H := (H.p5).putE e163
        have H := (H.p2).drop
        have H := Own.closeSl' hij (H.p3.p3)
        rw [List.nil_append] at H
        refine UpI.next (by omega) hlt ⟨⟨a148, d3.n + 1, c149⟩, ⟨a160, d4.n + 1, c161⟩, ?_⟩
        rw [List.take_succ_eq_append_getElem hii, List.take_succ_eq_append_getElem hij]
        exact (H.p3.p12.p12.p12.p12.p12.p12.p12.p12.p11.p12.p12)
      · have hge := ge_of_dec hge
        rw [List.take_of_length_le (by rw [w.heard]; omega), List.take_of_length_le (by rw [w.found]; omega)] at H
        refine ⟨_, _, _, H.cell m0 rfl, _, _, _, H.cell m0 rfl, _, _, _, H.cell m0 rfl, _, _, _, H.cell m0 rfl, _, _, _, H.cell m0 rfl, _, _, H.row m6, by simp, ?_⟩
        intro g1 e1
        have H := H.p6.putE e1
        refine ⟨_, _, _, H.cell m0 rfl, _, _, _, H.cell m0 rfl, _, _, _, H.cell m0 rfl, _, _, _, H.cell m0 rfl, _, _, _, H.cell m0 rfl, ⟨d0, d1, d2, d3, d4⟩, rfl, ?_⟩
        exact (H.p12.p12.p12.p12.p12.p8.p8.p11.p10.p11).r10.r10.r10
  refine ⟨_, _, _, H.cell m1 rfl, _, _, _, H.cell m1 rfl, ?_⟩
  refine ⟨?_, ?_⟩
  · intro g166 e165
    have H := (H.made0 kI).at e165
    (repeat (refine ⟨by first | exact H.cell m2 rfl, ?_⟩))
    refine ⟨?_, ?_⟩
    · refine (H).appendSl (flatI _) m2 (by omega) rfl fun a167 c168 g169 H => ?_
      rw [List.nil_append] at H
      (repeat (refine ⟨by first | exact H.cell m2 rfl, ?_⟩))
      refine ⟨?_, ?_⟩
      · intro g171 e170
        have H := (H.made0 kI).at e170
        (repeat (refine ⟨by first | exact H.cell m3 rfl, ?_⟩))
        refine ⟨?_, ?_⟩
        · refine (H).appendSl (flatI _) m5 (by omega) rfl fun a172 c173 g174 H => ?_
          rw [List.nil_append] at H
          (repeat (refine ⟨by first | exact H.cell m3 rfl, ?_⟩))
          intro g176 e175
          have H := H.newE e175
          (repeat (refine ⟨by first | exact H.cell m4 rfl, ?_⟩))
          refine ⟨_, _, H.row m0, by simp, ?_⟩
          intro g178 e177
          have H := (H).putE e177
          exact fin _ _ ⟨a167, 0 + d.d0.n, c168⟩ ⟨a172, 0 + d.d2.n, c173⟩ (H.p9.p9.p9.p9.p9.p9.p9.p8.p9.p9)
        · intro g180 e179
          have H := H.newE e179
          (repeat (refine ⟨by first | exact H.cell m4 rfl, ?_⟩))
          refine (H.p1).appendSl (flatI _) m6 (by omega) rfl fun a181 c182 g183 H => ?_
          rw [List.nil_append] at H
          (repeat (refine ⟨by first | exact H.cell m4 rfl, ?_⟩))
          refine ⟨_, _, H.row m1, by simp, ?_⟩
          intro g185 e184
          have H := (H.p1).putE e184
          exact fin _ _ ⟨a167, 0 + d.d0.n, c168⟩ ⟨a181, 0 + d.d2.n, c182⟩ (H.p9.p9.p9.p9.p9.p9.p9.p8.p9.p9)
      · intro g187 e186
        have H := H.newE e186
        (repeat (refine ⟨by first | exact H.cell m3 rfl, ?_⟩))
        intro g189 e188
        have H := (H.made0 kI).at e188
        (repeat (refine ⟨by first | exact H.cell m4 rfl, ?_⟩))
        refine (H).appendSl (flatI _) m6 (by omega) rfl fun a190 c191 g192 H => ?_
        rw [List.nil_append] at H
        (repeat (refine ⟨by first | exact H.cell m4 rfl, ?_⟩))
        refine ⟨_, _, H.row m1, by simp, ?_⟩
        intro g194 e193
        have H := (H.p1).putE e193
        exact fin _ _ ⟨a167, 0 + d.d0.n, c168⟩ ⟨a190, 0 + d.d2.n, c191⟩ (H.p9.p9.p9.p9.p9.p9.p9.p8.p9.p9)
    · refine ⟨?_, ?_⟩
      · intro g196 e195
        have H := (H.made0 kI).at e195
        (repeat (refine ⟨by first | exact H.cell m3 rfl, ?_⟩))
        refine ⟨?_, ?_⟩
        · refine (H.p1).appendSl (flatI _) m3 (by omega) rfl fun a197 c198 g199 H => ?_
          rw [List.nil_append] at H
          (repeat (refine ⟨by first | exact H.cell m3 rfl, ?_⟩))
          refine ⟨?_, ?_⟩
          · refine (H.p1).appendSl (flatI _) m5 (by omega) rfl fun a200 c201 g202 H => ?_
            rw [List.nil_append] at H
            (repeat (refine ⟨by first | exact H.cell m3 rfl, ?_⟩))
            intro g204 e203
            have H := H.newE e203
            (repeat (refine ⟨by first | exact H.cell m4 rfl, ?_⟩))
            refine ⟨_, _, H.row m0, by simp, ?_⟩
            intro g206 e205
            have H := (H).putE e205
            exact fin _ _ ⟨a197, 0 + d.d0.n, c198⟩ ⟨a200, 0 + d.d2.n, c201⟩ (H.p9.p9.p9.p9.p9.p9.p9.p8.p9.p9)
          · intro g208 e207
            have H := H.newE e207
            (repeat (refine ⟨by first | exact H.cell m4 rfl, ?_⟩))
            refine (H.p2).appendSl (flatI _) m6 (by omega) rfl fun a209 c210 g211 H => ?_
            rw [List.nil_append] at H
            (repeat (refine ⟨by first | exact H.cell m4 rfl, ?_⟩))
            refine ⟨_, _, H.row m1, by simp, ?_⟩
            intro g213 e212
            have H := (H.p1).putE e212
            exact fin _ _ ⟨a197, 0 + d.d0.n, c198⟩ ⟨a209, 0 + d.d2.n, c210⟩ (H.p9.p9.p9.p9.p9.p9.p9.p8.p9.p9)
        · intro g215 e214
          have H := H.newE e214
          (repeat (refine ⟨by first | exact H.cell m4 rfl, ?_⟩))
          refine (H.p2).appendSl (flatI _) m4 (by omega) rfl fun a216 c217 g218 H => ?_
          rw [List.nil_append] at H
          (repeat (refine ⟨by first | exact H.cell m4 rfl, ?_⟩))
          refine (H.p2).appendSl (flatI _) m6 (by omega) rfl fun a219 c220 g221 H => ?_
          rw [List.nil_append] at H
          (repeat (refine ⟨by first | exact H.cell m4 rfl, ?_⟩))
          refine ⟨_, _, H.row m2, by simp, ?_⟩
          intro g223 e222
          have H := (H.p2).putE e222
          exact fin _ _ ⟨a216, 0 + d.d0.n, c217⟩ ⟨a219, 0 + d.d2.n, c220⟩ (H.p9.p9.p9.p9.p9.p9.p9.p8.p9.p9)
      · intro g225 e224
        have H := H.newE e224
        (repeat (refine ⟨by first | exact H.cell m3 rfl, ?_⟩))
        refine ⟨?_, ?_⟩
        · refine (H.p1).appendSl (flatI _) m3 (by omega) rfl fun a226 c227 g228 H => ?_
          rw [List.nil_append] at H
          (repeat (refine ⟨by first | exact H.cell m3 rfl, ?_⟩))
          intro g230 e229
          have H := (H.made0 kI).at e229
          (repeat (refine ⟨by first | exact H.cell m4 rfl, ?_⟩))
          refine (H).appendSl (flatI _) m6 (by omega) rfl fun a231 c232 g233 H => ?_
          rw [List.nil_append] at H
          (repeat (refine ⟨by first | exact H.cell m4 rfl, ?_⟩))
          refine ⟨_, _, H.row m2, by simp, ?_⟩
          intro g235 e234
          have H := (H.p2).putE e234
          exact fin _ _ ⟨a226, 0 + d.d0.n, c227⟩ ⟨a231, 0 + d.d2.n, c232⟩ (H.p9.p9.p9.p9.p9.p9.p9.p8.p9.p9)
        · intro g237 e236
          have H := (H.made0 kI).at e236
          (repeat (refine ⟨by first | exact H.cell m4 rfl, ?_⟩))
          refine (H.p2).appendSl (flatI _) m4 (by omega) rfl fun a238 c239 g240 H => ?_
          rw [List.nil_append] at H
          (repeat (refine ⟨by first | exact H.cell m4 rfl, ?_⟩))
          refine (H.p1).appendSl (flatI _) m6 (by omega) rfl fun a241 c242 g243 H => ?_
          rw [List.nil_append] at H
          (repeat (refine ⟨by first | exact H.cell m4 rfl, ?_⟩))
          refine ⟨_, _, H.row m2, by simp, ?_⟩
          intro g245 e244
          have H := (H.p2).putE e244
          exact fin _ _ ⟨a238, 0 + d.d0.n, c239⟩ ⟨a241, 0 + d.d2.n, c242⟩ (H.p9.p9.p9.p9.p9.p9.p9.p8.p9.p9)
  · refine ⟨?_, ?_⟩
    · intro g247 e246
      have H := (H.made0 kI).at e246
      (repeat (refine ⟨by first | exact H.cell m2 rfl, ?_⟩))
      refine ⟨?_, ?_⟩
      · intro g249 e248
        have H := (H.made0 kI).at e248
        (repeat (refine ⟨by first | exact H.cell m3 rfl, ?_⟩))
        refine ⟨?_, ?_⟩
        · refine (H).appendSl (flatI _) m3 (by omega) rfl fun a250 c251 g252 H => ?_
          rw [List.nil_append] at H
          (repeat (refine ⟨by first | exact H.cell m3 rfl, ?_⟩))
          refine ⟨?_, ?_⟩
          · refine (H.p1).appendSl (flatI _) m5 (by omega) rfl fun a253 c254 g255 H => ?_
            rw [List.nil_append] at H
            (repeat (refine ⟨by first | exact H.cell m3 rfl, ?_⟩))
            intro g257 e256
            have H := H.newE e256
            (repeat (refine ⟨by first | exact H.cell m4 rfl, ?_⟩))
            refine ⟨_, _, H.row m0, by simp, ?_⟩
            intro g259 e258
            have H := (H).putE e258
            exact fin _ _ ⟨a250, 0 + d.d0.n, c251⟩ ⟨a253, 0 + d.d2.n, c254⟩ (H.p9.p9.p9.p9.p9.p9.p9.p8.p9.p9)
          · intro g261 e260
            have H := H.newE e260
            (repeat (refine ⟨by first | exact H.cell m4 rfl, ?_⟩))
            refine (H.p2).appendSl (flatI _) m6 (by omega) rfl fun a262 c263 g264 H => ?_
            rw [List.nil_append] at H
            (repeat (refine ⟨by first | exact H.cell m4 rfl, ?_⟩))
            refine ⟨_, _, H.row m1, by simp, ?_⟩
            intro g266 e265
            have H := (H.p1).putE e265
            exact fin _ _ ⟨a250, 0 + d.d0.n, c251⟩ ⟨a262, 0 + d.d2.n, c263⟩ (H.p9.p9.p9.p9.p9.p9.p9.p8.p9.p9)
        · intro g268 e267
          have H := H.newE e267
          (repeat (refine ⟨by first | exact H.cell m4 rfl, ?_⟩))
          refine (H.p1).appendSl (flatI _) m4 (by omega) rfl fun a269 c270 g271 H => ?_
          rw [List.nil_append] at H
          (repeat (refine ⟨by first | exact H.cell m4 rfl, ?_⟩))
          refine (H.p2).appendSl (flatI _) m6 (by omega) rfl fun a272 c273 g274 H => ?_
          rw [List.nil_append] at H
          (repeat (refine ⟨by first | exact H.cell m4 rfl, ?_⟩))
          refine ⟨_, _, H.row m2, by simp, ?_⟩
          intro g276 e275
          have H := (H.p2).putE e275
          exact fin _ _ ⟨a269, 0 + d.d0.n, c270⟩ ⟨a272, 0 + d.d2.n, c273⟩ (H.p9.p9.p9.p9.p9.p9.p9.p8.p9.p9)
      · intro g278 e277
        have H := H.newE e277
        (repeat (refine ⟨by first | exact H.cell m3 rfl, ?_⟩))
        intro g280 e279
        have H := (H.made0 kI).at e279
        (repeat (refine ⟨by first | exact H.cell m4 rfl, ?_⟩))
        refine (H).appendSl (flatI _) m4 (by omega) rfl fun a281 c282 g283 H => ?_
        rw [List.nil_append] at H
        (repeat (refine ⟨by first | exact H.cell m4 rfl, ?_⟩))
        refine (H.p2).appendSl (flatI _) m6 (by omega) rfl fun a284 c285 g286 H => ?_
        rw [List.nil_append] at H
        (repeat (refine ⟨by first | exact H.cell m4 rfl, ?_⟩))
        refine ⟨_, _, H.row m2, by simp, ?_⟩
        intro g288 e287
        have H := (H.p2).putE e287
        exact fin _ _ ⟨a281, 0 + d.d0.n, c282⟩ ⟨a284, 0 + d.d2.n, c285⟩ (H.p9.p9.p9.p9.p9.p9.p9.p8.p9.p9)
    · intro g290 e289
      have H := H.newE e289
      (repeat (refine ⟨by first | exact H.cell m2 rfl, ?_⟩))
      refine ⟨?_, ?_⟩
      · intro g292 e291
        have H := (H.made0 kI).at e291
        (repeat (refine ⟨by first | exact H.cell m3 rfl, ?_⟩))
        refine ⟨?_, ?_⟩
        · refine (H).appendSl (flatI _) m3 (by omega) rfl fun a293 c294 g295 H => ?_
          rw [List.nil_append] at H
          (repeat (refine ⟨by first | exact H.cell m3 rfl, ?_⟩))
          intro g297 e296
          have H := (H.made0 kI).at e296
          (repeat (refine ⟨by first | exact H.cell m4 rfl, ?_⟩))
          refine (H).appendSl (flatI _) m6 (by omega) rfl fun a298 c299 g300 H => ?_
          rw [List.nil_append] at H
          (repeat (refine ⟨by first | exact H.cell m4 rfl, ?_⟩))
          refine ⟨_, _, H.row m2, by simp, ?_⟩
          intro g302 e301
          have H := (H.p2).putE e301
          exact fin _ _ ⟨a293, 0 + d.d0.n, c294⟩ ⟨a298, 0 + d.d2.n, c299⟩ (H.p9.p9.p9.p9.p9.p9.p9.p8.p9.p9)
        · intro g304 e303
          have H := (H.made0 kI).at e303
          (repeat (refine ⟨by first | exact H.cell m4 rfl, ?_⟩))
          refine (H.p1).appendSl (flatI _) m4 (by omega) rfl fun a305 c306 g307 H => ?_
          rw [List.nil_append] at H
          (repeat (refine ⟨by first | exact H.cell m4 rfl, ?_⟩))
          refine (H.p1).appendSl (flatI _) m6 (by omega) rfl fun a308 c309 g310 H => ?_
          rw [List.nil_append] at H
          (repeat (refine ⟨by first | exact H.cell m4 rfl, ?_⟩))
          refine ⟨_, _, H.row m2, by simp, ?_⟩
          intro g312 e311
          have H := (H.p2).putE e311
          exact fin _ _ ⟨a305, 0 + d.d0.n, c306⟩ ⟨a308, 0 + d.d2.n, c309⟩ (H.p9.p9.p9.p9.p9.p9.p9.p8.p9.p9)
      · intro g314 e313
        have H := (H.made0 kI).at e313
        (repeat (refine ⟨by first | exact H.cell m3 rfl, ?_⟩))
        intro g316 e315
        have H := (H.made0 kI).at e315
        (repeat (refine ⟨by first | exact H.cell m4 rfl, ?_⟩))
        refine (H).appendSl (flatI _) m4 (by omega) rfl fun a317 c318 g319 H => ?_
        rw [List.nil_append] at H
        (repeat (refine ⟨by first | exact H.cell m4 rfl, ?_⟩))
        refine (H.p1).appendSl (flatI _) m6 (by omega) rfl fun a320 c321 g322 H => ?_
        rw [List.nil_append] at H
        (repeat (refine ⟨by first | exact H.cell m4 rfl, ?_⟩))
        refine ⟨_, _, H.row m2, by simp, ?_⟩
        intro g324 e323
        have H := (H.p2).putE e323
        exact fin _ _ ⟨a317, 0 + d.d0.n, c318⟩ ⟨a320, 0 + d.d2.n, c321⟩ (H.p9.p9.p9.p9.p9.p9.p9.p8.p9.p9)
end
end Go.Proofs.Ytjmhahjmbmiepaa.D
