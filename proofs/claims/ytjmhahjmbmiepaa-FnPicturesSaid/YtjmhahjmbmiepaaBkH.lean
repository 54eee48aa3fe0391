/- Contracts: whole plays. -/
import Derived.Test.YtjmhahjmbmiepaaBkG
namespace Go.Proofs.Ytjmhahjmbmiepaa.D
open Go
set_option linter.unusedVariables false
set_option linter.unusedSimpArgs false

/-- A loop that counts up and carries a slice. -/
def UpS (n : Nat) (J : Nat → Option Addr → Nat → Nat → Heap → Prop) : List Value → Heap → Prop := fun vs g => ∃ (i : Nat) (a : Option Addr) (m c : Nat), i ≤ n ∧ vs = [.slice a m c, .int .i64 (i : Int)] ∧ J i a m c g
theorem UpS.start {n : Nat} {J : Nat → Option Addr → Nat → Nat → Heap → Prop} {h : Heap} {a : Option Addr} {m c : Nat} (j : J 0 a m c h) : UpS n J [.slice a m c, .int .i64 0] h := ⟨0, a, m, c, by omega, rfl, j⟩
theorem UpS.elim {n : Nat} {J : Nat → Option Addr → Nat → Nat → Heap → Prop} {h : Heap} {a : Option Addr} {m c : Nat} {x : Int} (u : UpS n J [.slice a m c, .int .i64 x] h) : ∃ i : Nat, i ≤ n ∧ x = i ∧ J i a m c h := by
  obtain ⟨i, a', m', c', hi, hv, j⟩ := u
  simp at hv
  obtain ⟨⟨rfl, rfl, rfl⟩, rfl⟩ := hv
  exact ⟨i, hi, rfl, j⟩
theorem UpS.next {n : Nat} {J : Nat → Option Addr → Nat → Nat → Heap → Prop} {g g' : Heap} {i : Nat} {a a' : Option Addr} {m c m' c' : Nat} (hn : n < 281474976710656) (hi : i < n) (j : J (i + 1) a' m' c' g) :
    UpS n J [.slice a' m' c', .int .i64 (IntKind.i64.wrap ((i : Int) + 1))] g ∧ UpKM n [.slice a' m' c', .int .i64 (IntKind.i64.wrap ((i : Int) + 1))] g < UpKM n [.slice a m c, .int .i64 (i : Int)] g' := by
  rw [wrap_succ (by omega)]
  refine ⟨⟨i + 1, a', m', c', by omega, rfl, j⟩, ?_⟩
  simp [UpKM, ivOf]; omega

def runD (n : Nat) (x : BankD) (l : List StepD) : BankD × List Bool := l.foldl (fun p s => ((stepD n p.1 s).getD p.1, p.2 ++ [(stepD n p.1 s).isSome])) (x, [])
theorem runD_snoc (n : Nat) (x : BankD) (l : List StepD) (s : StepD) : runD n x (l ++ [s]) = ((stepD n (runD n x l).1 s).getD (runD n x l).1, (runD n x l).2 ++ [(stepD n (runD n x l).1 s).isSome]) := by
  unfold runD; rw [List.foldl_append]; rfl
theorem WfB.new {n : Nat} {xs : List Int} (hp : 1 ≤ n) (hn : n ≤ 5) (hl : xs.length = n) : WfB n 0 (newD n xs) := by
  refine ⟨hp, hn, hl, by simp [newD], by simp [newD], by simp [newD], by simp [newD], fun j => ?_, fun j hj => ?_, fun j hj => ?_, fun j hj => ?_⟩
  · simp only [newD, List.getD_eq_getElem?_getD, List.getElem?_replicate]; split <;> simp
  · simp only [newD, List.getD_eq_getElem?_getD, List.getElem?_replicate]; simp [hj]
  · simp only [newD, List.getD_eq_getElem?_getD, List.getElem?_replicate]; simp [hj]
  · simp only [newD, List.getD_eq_getElem?_getD, List.getElem?_replicate]; split <;> simp
theorem WfB.run {n : Nat} {x : BankD} (w : WfB n 0 x) (l : List StepD) : ∀ i, i ≤ l.length → WfB n i (runD n x (l.take i)).1
  | 0, _ => by simpa [runD] using w
  | i + 1, hi => by
    have ih := WfB.run w l i (by omega)
    rw [List.take_succ_eq_append_getElem (by omega), runD_snoc]
    cases hs : stepD n (runD n x (l.take i)).1 l[i] with
    | none => simpa [hs] using ih.mono (by omega)
    | some y => simpa [hs] using ih.step hs
theorem run_length (n : Nat) (x : BankD) (l : List StepD) : ∀ i, i ≤ l.length → (runD n x (l.take i)).2.length = i
  | 0, _ => by simp [runD]
  | i + 1, hi => by
    rw [List.take_succ_eq_append_getElem (by omega), runD_snoc, List.length_append, run_length n x l i (by omega)]; rfl
structure PlayR where
  bank : BankD
  did : List Bool
  ok : Bool
def nilD : BankD := ⟨[], [], [], [], []⟩
def playD (xs : List Int) (ss : List StepD) : PlayR := if coinsOk xs && decide (ss.length ≤ 120) then ⟨(runD xs.length (newD xs.length xs) ss).1, (runD xs.length (newD xs.length xs) ss).2, true⟩ else ⟨nilD, [], false⟩
theorem coinsOk_len {xs : List Int} (h : coinsOk xs = true) : 1 ≤ xs.length ∧ xs.length ≤ 5 := by
  unfold coinsOk at h
  rw [Bool.and_eq_true, inR_iff] at h
  omega

section
variable {h : Heap} {L : List Asn}
theorem Own.nilBank (H : Own h L) : Own h (bankL nilD BankH.nil (slA kB [] none 0 0 :: L)) := ((((H.slNil kB).slNil kIS).slNil kBS).slNil kI).slNil kIS |>.slNil kI

theorem impl_PlayBank_ok {xs : List Int} {ss : List StepD} {a a2 : Option Addr} {n c n2 c2 : Nat} (hmax : n ≤ 1048576) (H : Own h (slA kI xs a n c :: slA kSI ss a2 n2 c2 :: L)) :
    CallsH PP fn_impl_PlayBank [.slice a n c, .slice a2 n2 c2] h fun v h' => ∃ (d : BankH) (a3 : Option Addr) (n3 c3 : Nat), v = .tuple ⟨[.agg ⟨d.cells⟩, .slice a3 n3 c3, .bool (playD xs ss).ok]⟩ ∧
      Own h' (bankL (playD xs ss).bank d (slA kB (playD xs ss).did a3 n3 c3 :: slA kI xs a n c :: slA kSI ss a2 n2 c2 :: L)) := by
  refine calls_impl_PlayBank _ _ _ _ _ _ ?_
  unfold M_impl_PlayBank
  have hl1 := (H.len m0).1
  have hl2 := H.len m1
  intro h3 e3
  have H := H.newE e3
  obtain ⟨F, hx⟩ := H.sl m1
  refine (areCoins_ok hx).mono ?_
  rintro v h4 ⟨rfl, rfl⟩
  refine ⟨_, rfl, fun hok => ?_, fun hno => ?_⟩
  · have hok := of_not hok
    have hn := coinsOk_len hok
    refine ⟨fun hlong => ?_, fun hshort => ?_⟩
    · have hR : playD xs ss = ⟨nilD, [], false⟩ := by
        unfold playD
        rw [if_neg]
        have := of_decide_eq_true hlong
        simp; intro _; omega
      refine ⟨_, _, H.row m0, by simp, ?_⟩
      intro g1 e1
      have H0 := H.putE e1
      have H := H0.drop
      rw [hR]
      exact ⟨_, _, _, H0.cell m0 rfl, _, _, _, H0.cell m0 rfl, _, _, _, H0.cell m0 rfl, _, _, _, H0.cell m0 rfl, _, _, _, H0.cell m0 rfl, BankH.nil, none, 0, 0, rfl, H.nilBank⟩
    · have hshort : ss.length ≤ 120 := by have := of_decide_eq_false hshort; omega
      have hR : playD xs ss = ⟨(runD n (newD n xs) ss).1, (runD n (newD n xs) ss).2, true⟩ := by
        unfold playD
        rw [if_pos (by rw [hok, decide_eq_true hshort]; rfl), hl1]
      have wf := WfB.new (n := n) (xs := xs) (by omega) (by omega) hl1.symm
      refine (newBank_ok (by omega) (by omega) H.p1).mono ?_
      rintro v h13 ⟨d, rfl, H⟩
      refine ⟨_, _, _, _, _, _, _, _, _, _, _, _, _, _, _, rfl, ?_⟩
      intro h19 e19
      have H := H.newE e19
      refine ⟨_, _, H.row m0, by simp, ?_⟩
      intro h21 e21
      have H := H.putE e21
      refine ⟨UpS n2 fun i a3 m3 c3 g => m3 = i ∧ Own g (rowA h13.size ty_impl_Bank d.cells :: bankL (runD n (newD n xs) (ss.take i)).1 d (slA kB (runD n (newD n xs) (ss.take i)).2 a3 m3 c3 :: slA kI xs a n c :: rowA h.size ty_impl_Bank [.slice none 0 0, .slice none 0 0, .slice none 0 0, .slice none 0 0, .slice none 0 0] :: slA kSI ss a2 n2 c2 :: L)), UpKM n2, UpS.start ⟨rfl, ?_⟩, ?_⟩
      · exact (H.slNil kB).q6
      intro g a3 m3 c3 y hI
      obtain ⟨i, hi, rfl, rfl, H⟩ := hI.elim
      refine ⟨fun hlt => ?_, fun hge => ?_⟩
      · have hlt := lt_of_dec hlt
        have wfi := wf.run ss m3 (by omega)
        obtain ⟨b, o, ha, c0, c1, c2', c3', hok⟩ := H.stepAt m9 (i := m3) (by omega)
        refine ⟨b, o, ha, by omega, by omega, _, c0, _, c1, _, c2', _, c3', ?_⟩
        intro g2 e1
        have H := H.newE e1
        refine ⟨_, _, H.row m0, by simp [BankH.cells], ?_⟩
        intro g4 e3
        have H := (H).putE e3
        refine ⟨_, H.cell m0 rfl, _, H.cell m0 rfl, _, H.cell m0 rfl, _, H.cell m0 rfl, ?_⟩
        refine (step_ok wfi (by omega) hok (H.p6.p6.p6.p6.p6.p6)).mono ?_
        rintro v h37 ⟨rfl, H⟩
        refine ⟨_, rfl, ?_⟩
        intro g6 e5
        have H := H.newE e5
        refine (H.p8).append1 (y := _) m0 ⟨rfl, rfl⟩ (by omega) rfl fun a7 c8 g9 H => ?_
        refine UpS.next (by omega) hlt ⟨rfl, ?_⟩
        rw [List.take_succ_eq_append_getElem (by omega), runD_snoc]
        exact (H.p11.p11.p11.p3.p10.p10.p10.p10.p10.p10).r10.r10
      · have hge := ge_of_dec hge
        rw [List.take_of_length_le (by omega)] at H
        refine ⟨_, _, _, H.cell m0 rfl, _, _, _, H.cell m0 rfl, _, _, _, H.cell m0 rfl, _, _, _, H.cell m0 rfl, _, _, _, H.cell m0 rfl, _, _, H.row m8, by simp, ?_⟩
        intro g1 e1
        have H := H.p8.putE e1
        rw [hR]
        refine ⟨_, _, _, H.cell m0 rfl, _, _, _, H.cell m0 rfl, _, _, _, H.cell m0 rfl, _, _, _, H.cell m0 rfl, _, _, _, H.cell m0 rfl, d, _, _, _, rfl, ?_⟩
        exact (H.p9.p9.p9.p9.p9.p9.p9.p9).r8.r8
  · have hR : playD xs ss = ⟨nilD, [], false⟩ := by
      unfold playD
      rw [if_neg]
      have : coinsOk xs = false := by simpa using hno
      rw [this]; simp
    refine ⟨_, _, H.row m0, by simp, ?_⟩
    intro g1 e1
    have H0 := H.putE e1
    have H := H0.drop
    rw [hR]
    exact ⟨_, _, _, H0.cell m0 rfl, _, _, _, H0.cell m0 rfl, _, _, _, H0.cell m0 rfl, _, _, _, H0.cell m0 rfl, _, _, _, H0.cell m0 rfl, BankH.nil, none, 0, 0, rfl, H.nilBank⟩

theorem spec_PlayBank_ok {xs : List Int} {ss : List StepD} {a a2 : Option Addr} {n c n2 c2 : Nat} (hmax : n ≤ 1048576) (H : Own h (slA kI xs a n c :: slA kSI ss a2 n2 c2 :: L)) :
    CallsH PP fn_spec_PlayBank [.slice a n c, .slice a2 n2 c2] h fun v h' => ∃ (d : BankH) (a3 : Option Addr) (n3 c3 : Nat), v = .tuple ⟨[.agg ⟨d.cells⟩, .slice a3 n3 c3, .bool (playD xs ss).ok]⟩ ∧
      Own h' (bankL (playD xs ss).bank d (slA kB (playD xs ss).did a3 n3 c3 :: slA kI xs a n c :: slA kSI ss a2 n2 c2 :: L)) := by
  refine calls_spec_PlayBank _ _ _ _ _ _ ?_
  unfold M_spec_PlayBank
  have hl1 := (H.len m0).1
  have hl2 := H.len m1
  intro h3 e3
  have H := H.newE e3
  refine (NewBank_ok hmax H.p1).mono ?_
  rintro v h4 ⟨d, rfl, Hyes, Hno⟩
  refine ⟨_, _, _, _, _, _, _, _, _, _, _, _, _, _, _, _, rfl, ?_⟩
  intro h11 e11
  by_cases hok : coinsOk xs = true
  · have hn := coinsOk_len hok
    have H := (Hyes hok).newE e11
    rw [hok]
    refine ⟨_, _, H.row m0, by simp, ?_⟩
    intro h13 e13
    have H := H.putE e13
    refine ⟨fun _ => ⟨fun hlong => ?_, fun hshort => ?_⟩, fun hh => absurd hh (by decide)⟩
    · have hR : playD xs ss = ⟨nilD, [], false⟩ := by
        unfold playD
        rw [if_neg]
        have := of_decide_eq_true hlong
        simp; intro _; omega
      refine ⟨_, _, H.row m7, by simp, ?_⟩
      intro g1 e1
      have H := (H.p7).putE e1
      rw [hR]
      exact ⟨_, _, _, H.cell m0 rfl, _, _, _, H.cell m0 rfl, _, _, _, H.cell m0 rfl, _, _, _, H.cell m0 rfl, _, _, _, H.cell m0 rfl, BankH.nil, none, 0, 0, rfl, ((H.p8.p8).r2.r2.r2.r2.r2.r2.r2).nilBank⟩
    · have hshort : ss.length ≤ 120 := by have := of_decide_eq_false hshort; omega
      have hR : playD xs ss = ⟨(runD n (newD n xs) ss).1, (runD n (newD n xs) ss).2, true⟩ := by
        unfold playD
        rw [if_pos (by rw [hok, decide_eq_true hshort]; rfl), hl1]
      have wf := WfB.new (n := n) (xs := xs) (by omega) (by omega) hl1.symm
      refine ⟨UpS n2 fun i a3 m3 c3 g => m3 = i ∧ ∃ d : BankH, Own g (rowA h4.size ty_impl_Bank d.cells :: bankL (runD n (newD n xs) (ss.take i)).1 d (slA kB (runD n (newD n xs) (ss.take i)).2 a3 m3 c3 :: slA kI xs a n c :: rowA h.size ty_impl_Bank [.slice none 0 0, .slice none 0 0, .slice none 0 0, .slice none 0 0, .slice none 0 0] :: slA kSI ss a2 n2 c2 :: L)), UpKM n2, UpS.start ⟨rfl, d, ?_⟩, ?_⟩
      · exact (H.slNil kB).q6
      intro g a3 m3 c3 y hI
      obtain ⟨i, hi, rfl, rfl, d, H⟩ := hI.elim
      refine ⟨fun hlt => ?_, fun hge => ?_⟩
      · have hlt := lt_of_dec hlt
        have wfi := wf.run ss m3 (by omega)
        obtain ⟨b, o, ha, c0, c1, c2', c3', hok⟩ := H.stepAt m9 (i := m3) (by omega)
        refine ⟨b, o, ha, by omega, by omega, _, c0, _, c1, _, c2', _, c3', ?_⟩
        intro g11 e10
        have H := H.newE e10
        refine ⟨_, _, H.row m0, by simp [BankH.cells], ?_⟩
        intro g13 e12
        have H := (H).putE e12
        refine ⟨_, _, _, H.cell m1 rfl, _, _, _, H.cell m1 rfl, _, _, _, H.cell m1 rfl, _, _, _, H.cell m1 rfl, _, _, _, H.cell m1 rfl, _, H.cell m0 rfl, _, H.cell m0 rfl, _, H.cell m0 rfl, _, H.cell m0 rfl, ?_⟩
        refine ⟨?_, ?_⟩
        · refine (l12Own_ok wfi (by omega) (H.p6.p6.p6.p6.p6)).mono ?_
          rintro v g15 ⟨d14, rfl, H⟩
          refine ⟨_, _, _, _, _, _, _, _, _, _, _, _, _, _, _, rfl, ?_⟩
          (repeat (refine ⟨by first | exact H.cell m10 rfl | exact H.cell m11 rfl, ?_⟩))
          refine ⟨?_, ?_⟩
          · refine (l12Step_ok wfi (by omega) hok (H.p4.p4.p4.p4.p4)).mono ?_
            rintro v g16 ⟨rfl, H⟩
            refine ⟨_, _, _, _, _, _, _, _, _, _, _, _, _, _, _, _, rfl, ?_⟩
            intro g18 e17
            have H := H.newE e17
            (repeat (refine ⟨by first | exact H.cell m11 rfl | exact H.cell m12 rfl, ?_⟩))
            refine ⟨_, _, H.row m0, by simp [BankH.cells], ?_⟩
            intro g20 e19
            have H := (H).putE e19
            refine ⟨fun hst => ?_, fun hst => ?_⟩
            · refine ⟨_, _, _, H.cell m0 rfl, _, _, _, H.cell m0 rfl, _, _, _, H.cell m0 rfl, _, _, _, H.cell m0 rfl, _, _, _, H.cell m0 rfl, ?_⟩
              refine ⟨_, _, H.row m12, by simp [BankH.cells], ?_⟩
              intro g22 e21
              have H := (H.p12).putE e21
              intro g24 e23
              have H := H.newE e23
              refine (H.p14).append1 (y := _) m0 ⟨rfl, rfl⟩ (by omega) rfl fun a25 c26 g27 H => ?_
              refine UpS.next (by omega) hlt ⟨rfl, d14, ?_⟩
              rw [List.take_succ_eq_append_getElem (by omega), runD_snoc]
              exact (H.p17.p17.p17.p3.p11.p11.p11.p11.p11.p10).r10.r10.r10.r10.r10.r10.r10.r10
            · intro g29 e28
              have H := H.newE e28
              refine (H.p14).append1 (y := _) m0 ⟨rfl, rfl⟩ (by omega) rfl fun a30 c31 g32 H => ?_
              refine UpS.next (by omega) hlt ⟨rfl, d, ?_⟩
              rw [List.take_succ_eq_append_getElem (by omega), runD_snoc]
              have hnone : stepD n (runD n (newD n xs) (ss.take m3)).1 ss[m3] = none := by simpa using hst
              have H := (H.p17.p17.p17.p3.p15.p15.p15.p15.p15.p17).r10.r10.r10.r10.r10.r10.r10.r10
              rw [hnone] at H ⊢
              exact H
          · intro g34 e33
            have H := H.newE e33
            (repeat (refine ⟨by first | exact H.cell m11 rfl | exact H.cell m12 rfl, ?_⟩))
            refine (l12Step_ok wfi (by omega) hok (H.p5.p5.p5.p5.p5)).mono ?_
            rintro v g35 ⟨rfl, H⟩
            refine ⟨_, _, _, _, _, _, _, _, _, _, _, _, _, _, _, _, rfl, ?_⟩
            refine ⟨_, _, H.row m5, by simp [BankH.cells], ?_⟩
            intro g37 e36
            have H := (H.p5).putE e36
            refine ⟨fun hst => ?_, fun hst => ?_⟩
            · refine ⟨_, _, _, H.cell m0 rfl, _, _, _, H.cell m0 rfl, _, _, _, H.cell m0 rfl, _, _, _, H.cell m0 rfl, _, _, _, H.cell m0 rfl, ?_⟩
              refine ⟨_, _, H.row m12, by simp [BankH.cells], ?_⟩
              intro g39 e38
              have H := (H.p12).putE e38
              intro g41 e40
              have H := H.newE e40
              refine (H.p14).append1 (y := _) m0 ⟨rfl, rfl⟩ (by omega) rfl fun a42 c43 g44 H => ?_
              refine UpS.next (by omega) hlt ⟨rfl, d14, ?_⟩
              rw [List.take_succ_eq_append_getElem (by omega), runD_snoc]
              exact (H.p17.p17.p17.p3.p11.p11.p11.p11.p11.p10).r10.r10.r10.r10.r10.r10.r10.r10
            · intro g46 e45
              have H := H.newE e45
              refine (H.p14).append1 (y := _) m0 ⟨rfl, rfl⟩ (by omega) rfl fun a47 c48 g49 H => ?_
              refine UpS.next (by omega) hlt ⟨rfl, d, ?_⟩
              rw [List.take_succ_eq_append_getElem (by omega), runD_snoc]
              have hnone : stepD n (runD n (newD n xs) (ss.take m3)).1 ss[m3] = none := by simpa using hst
              have H := (H.p17.p17.p17.p3.p15.p15.p15.p15.p15.p17).r10.r10.r10.r10.r10.r10.r10.r10
              rw [hnone] at H ⊢
              exact H
        · intro g51 e50
          have H := H.newE e50
          (repeat (refine ⟨by first | exact H.cell m1 rfl | exact H.cell m2 rfl, ?_⟩))
          refine (l12Own_ok wfi (by omega) (H.p7.p7.p7.p7.p7)).mono ?_
          rintro v g53 ⟨d52, rfl, H⟩
          refine ⟨_, _, _, _, _, _, _, _, _, _, _, _, _, _, _, rfl, ?_⟩
          (repeat (refine ⟨by first | exact H.cell m11 rfl | exact H.cell m12 rfl, ?_⟩))
          refine (l12Step_ok wfi (by omega) hok (H.p4.p4.p4.p4.p4)).mono ?_
          rintro v g54 ⟨rfl, H⟩
          refine ⟨_, _, _, _, _, _, _, _, _, _, _, _, _, _, _, _, rfl, ?_⟩
          refine ⟨_, _, H.row m10, by simp [BankH.cells], ?_⟩
          intro g56 e55
          have H := (H.p10).putE e55
          refine ⟨fun hst => ?_, fun hst => ?_⟩
          · refine ⟨_, _, _, H.cell m0 rfl, _, _, _, H.cell m0 rfl, _, _, _, H.cell m0 rfl, _, _, _, H.cell m0 rfl, _, _, _, H.cell m0 rfl, ?_⟩
            refine ⟨_, _, H.row m12, by simp [BankH.cells], ?_⟩
            intro g58 e57
            have H := (H.p12).putE e57
            intro g60 e59
            have H := H.newE e59
            refine (H.p14).append1 (y := _) m0 ⟨rfl, rfl⟩ (by omega) rfl fun a61 c62 g63 H => ?_
            refine UpS.next (by omega) hlt ⟨rfl, d52, ?_⟩
            rw [List.take_succ_eq_append_getElem (by omega), runD_snoc]
            exact (H.p17.p17.p17.p3.p11.p11.p11.p11.p11.p10).r10.r10.r10.r10.r10.r10.r10.r10
          · intro g65 e64
            have H := H.newE e64
            refine (H.p14).append1 (y := _) m0 ⟨rfl, rfl⟩ (by omega) rfl fun a66 c67 g68 H => ?_
            refine UpS.next (by omega) hlt ⟨rfl, d, ?_⟩
            rw [List.take_succ_eq_append_getElem (by omega), runD_snoc]
            have hnone : stepD n (runD n (newD n xs) (ss.take m3)).1 ss[m3] = none := by simpa using hst
            have H := (H.p17.p17.p17.p3.p15.p15.p15.p15.p15.p17).r10.r10.r10.r10.r10.r10.r10.r10
            rw [hnone] at H ⊢
            exact H
      · have hge := ge_of_dec hge
        rw [List.take_of_length_le (by omega)] at H
        have wfe := wf.run ss ss.length (Nat.le_refl _)
        rw [List.take_length] at wfe
        refine ⟨_, _, _, H.cell m0 rfl, _, _, _, H.cell m0 rfl, _, _, _, H.cell m0 rfl, _, _, _, H.cell m0 rfl, _, _, _, H.cell m0 rfl, ?_⟩
        refine (l12Own_ok wfe (by omega) (H.p5.p5.p5.p5.p5)).mono ?_
        rintro v g2 ⟨d', rfl, H⟩
        refine ⟨_, _, _, _, _, _, _, _, _, _, _, _, _, _, _, rfl, ?_⟩
        refine ⟨_, _, H.row m13, by simp [BankH.cells], ?_⟩
        intro g70 e69
        have H := (H.p13).putE e69
        rw [hR]
        refine ⟨_, _, _, H.cell m0 rfl, _, _, _, H.cell m0 rfl, _, _, _, H.cell m0 rfl, _, _, _, H.cell m0 rfl, _, _, _, H.cell m0 rfl, d', _, _, _, rfl, ?_⟩
        exact (H.p14.p14.p14.p8.p8.p8.p8.p8).r8.r8.r8.r8.r8.r8.r8
  · have hno : coinsOk xs = false := by simpa using hok
    have hR : playD xs ss = ⟨nilD, [], false⟩ := by
      unfold playD
      rw [if_neg]
      rw [hno]; simp
    obtain ⟨rfl, H⟩ := Hno hno
    have H := H.newE e11
    rw [hno]
    refine ⟨_, _, H.row m0, by simp, ?_⟩
    intro h13 e13
    have H := H.putE e13
    refine ⟨fun hh => absurd hh (by decide), fun _ => ?_⟩
    refine ⟨_, _, H.row m2, by simp, ?_⟩
    intro g1 e1
    have H := H.p2.putE e1
    rw [hR]
    exact ⟨_, _, _, H.cell m0 rfl, _, _, _, H.cell m0 rfl, _, _, _, H.cell m0 rfl, _, _, _, H.cell m0 rfl, _, _, _, H.cell m0 rfl, BankH.nil, none, 0, 0, rfl, H.drop.drop.nilBank⟩
end
end Go.Proofs.Ytjmhahjmbmiepaa.D
