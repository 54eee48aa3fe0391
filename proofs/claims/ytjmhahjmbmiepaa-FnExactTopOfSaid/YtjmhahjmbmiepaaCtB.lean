/- Contracts: steps and banks, in the laws' own functions. -/
import Derived.Test.YtjmhahjmbmiepaaCtA
namespace Go.Proofs.Ytjmhahjmbmiepaa.D
open Go
set_option linter.unusedVariables false
set_option linter.unusedSimpArgs false

section
variable {h : Heap}

theorem szSnapStepS_ok {a : Option Addr} {n c : Nat} {k : Int} (hk : 0 ≤ k) (hk2 : k < 4611686018427387904) (hn : n < 9223372036854775808) :
    CallsH PP fn_laws_szSnapStepS [.slice a n c, .int .i64 k] h fun v h' => v = .int .i64 (if k < n then -1 else k - n) ∧ h' = h := by
  refine calls_laws_szSnapStepS _ _ _ _ ?_
  unfold M_laws_szSnapStepS
  rw [wrap64_of (by omega) (by omega)]
  refine ⟨fun hh => ?_, fun hh => ?_⟩
  · rw [if_pos (by simp at hh; omega)]; exact ⟨rfl, rfl⟩
  · rw [if_neg (by simp at hh; omega)]; exact ⟨rfl, rfl⟩

theorem toSnapStep_ok (x : StepD) : CallsH PP fn_laws_toSnapStep [.agg ⟨x.cells⟩] h fun v h' => v = .agg ⟨x.cells⟩ ∧ Ext h h' := by
  refine calls_laws_toSnapStep _ _ _ _ ?_
  unfold M_laws_toSnapStep
  intro h5 e5
  obtain ⟨r5, f5, s5⟩ := newStep e5
  intro h6 e6
  obtain ⟨r6, f6, s6⟩ := newStep e6
  intro h7 e7
  obtain ⟨r7, f7, s7⟩ := newStep e7
  have r5 := (r5.frm f6 (by simp)).frm f7 (by simp)
  have r6 := r6.frm f7 (by simp)
  have f0 : Ext h h7 := (f5.trans f6).trans f7
  refine ⟨_, r5.at rfl, _, _, r7, by simp, ?_⟩
  intro h10 e10
  obtain ⟨r10, f10, s10⟩ := putStep e10 r7
  have r5 := r5.frm f10 (not1 (by omega))
  have r6 := r6.frm f10 (not1 (by omega))
  have f0 := f0.put f10 (by omega)
  refine ⟨_, r5.at rfl, _, _, r10, by simp, ?_⟩
  intro h13 e13
  obtain ⟨r13, f13, s13⟩ := putStep e13 r10
  have r5 := r5.frm f13 (not1 (by omega))
  have r6 := r6.frm f13 (not1 (by omega))
  have f0 := f0.put f13 (by omega)
  refine ⟨_, r5.at rfl, _, _, r13, by simp, ?_⟩
  intro h16 e16
  obtain ⟨r16, f16, s16⟩ := putStep e16 r13
  have r5 := r5.frm f16 (not1 (by omega))
  have r6 := r6.frm f16 (not1 (by omega))
  have f0 := f0.put f16 (by omega)
  refine ⟨_, r5.at rfl, _, _, r16, by simp, ?_⟩
  intro h19 e19
  obtain ⟨r19, f19, s19⟩ := putStep e19 r16
  have r6 := r6.frm f19 (not1 (by omega))
  have f0 := f0.put f19 (by omega)
  refine ⟨_, r19.at rfl, _, r19.at rfl, _, r19.at rfl, _, r19.at rfl, _, _, r6, by simp, ?_⟩
  intro h25 e25
  obtain ⟨r25, f25, s25⟩ := putStep e25 r6
  exact ⟨_, r25.at rfl, _, r25.at rfl, _, r25.at rfl, _, r25.at rfl, rfl, f0.put f25 (by omega)⟩

theorem eqSnapStep_ok (x y : StepD) : CallsH PP fn_laws_eqSnapStep [.agg ⟨x.cells⟩, .agg ⟨y.cells⟩] h fun v h' => v = .bool (decide (x = y)) ∧ Ext h h' := by
  refine calls_laws_eqSnapStep _ _ _ _ _ _ _ _ ?_
  unfold M_laws_eqSnapStep
  intro h9 e9
  obtain ⟨r9, f9, s9⟩ := newStep e9
  intro h10 e10
  obtain ⟨r10, f10, s10⟩ := newStep e10
  have r9 := r9.frm f10 (by simp)
  have f0 := f9.trans f10
  have no : ∀ {p : Prop} [Decidable p], ¬ p → Value.bool false = .bool (decide p) := fun hp => by simp [hp]
  refine ⟨_, r9.at rfl, _, r10.at rfl, fun hne => ⟨no (by rintro rfl; simp at hne), f0⟩, fun h1 => ?_⟩
  refine ⟨_, r9.at rfl, _, r10.at rfl, fun hne => ⟨no (by rintro rfl; simp at hne), f0⟩, fun h2 => ?_⟩
  refine ⟨_, r9.at rfl, _, r10.at rfl, fun hne => ⟨no (by rintro rfl; simp at hne), f0⟩, fun h3 => ?_⟩
  refine ⟨_, r9.at rfl, _, r10.at rfl, fun hne => ⟨no (by rintro rfl; simp at hne), f0⟩, fun h4 => ?_⟩
  refine ⟨?_, f0⟩
  obtain ⟨x1, x2, x3, x4⟩ := x
  obtain ⟨y1, y2, y3, y4⟩ := y
  simp at h1 h2 h3 h4
  subst h1 h2 h3 h4
  simp

abbrev kSL : Kind StepD := kStep ty_laws_SnapStep

theorem toSnapStepS_ok {xs : List StepD} {a : Option Addr} {n c : Nat} (hx : RdS h xs a n) (hmax : n ≤ 1048576) :
    CallsH PP fn_laws_toSnapStepS [.slice a n c] h fun v h' => ∃ a' F', v = .slice a' n n ∧ Sl kSI h' xs a' n n F' ∧ Fresh h F' ∧ Ext h h' := by
  refine calls_laws_toSnapStepS _ _ _ ?_
  unfold M_laws_toSnapStepS
  have hn := hx.len
  refine ⟨by omega, by omega, by omega, by omega, ?_⟩
  intro h2 e2
  have zero : Sl kSI h2 (List.replicate n ⟨0, 0, 0, 0⟩) (some ⟨h.size, 0, none⟩) n n [h.size] := by
    have e : Els kSI h (List.replicate n ⟨0, 0, 0, 0⟩) (repl [.int .i64 0, .int .i64 0, .int .i64 0, .int .i64 0] n) [] := by
      clear hx hmax e2 hn
      induction n with
      | zero => exact ⟨rfl, rfl⟩
      | succ n ih => exact ⟨[.int .i64 0, .int .i64 0, .int .i64 0, .int .i64 0], _, [], [], rfl, rfl, ⟨rfl, rfl, ok0⟩, ih⟩
    have := Sl.made kSI h (c := n) (post := []) e (by simp) (by simp) (by simp; omega)
    simp only [List.length_replicate, List.append_nil] at this
    rw [e2]
    exact this
  have f2 : Ext h h2 := by rw [e2]; exact Frm.new _ _ _ _
  refine ⟨UpI n fun i g => Ext h g ∧ Sl kSI g (part xs (List.replicate n ⟨0, 0, 0, 0⟩) i) (some ⟨h.size, 0, none⟩) n n [h.size], UpM n, UpI.start ⟨f2, by rw [part_zero]; exact zero⟩, ?_⟩
  intro g x hI
  obtain ⟨i, hi, rfl, hg, hs⟩ := hI.elim
  have hlen : xs.length = (List.replicate n (⟨0, 0, 0, 0⟩ : StepD)).length := by simp [hn]
  refine ⟨fun hlt => ?_, fun hge => ?_⟩
  · have hlt := lt_of_dec hlt
    obtain ⟨b, o, rfl, c0, c1, c2, c3, hr⟩ := (hx.ext hg).at_ (i := i) (by omega)
    refine ⟨b, o, rfl, by omega, by omega, _, c0, _, c1, _, c2, _, c3, (toSnapStep_ok _).mono ?_⟩
    rintro v h10 ⟨rfl, f10⟩
    have hs := hs.ext f10
    refine ⟨_, _, _, _, rfl, by omega, by omega, ?_⟩
    obtain ⟨b', o', row, hb, _, r, hl, hset⟩ := hs.stepSet (List.nodup_cons.2 ⟨by simp, List.nodup_nil⟩) (i := i) (by rw [part_length hlen]; simp; omega)
    simp at hb
    obtain ⟨rfl, rfl⟩ := hb
    refine ⟨_, row, r, hl, ?_⟩
    rintro h16 rfl
    refine UpI.next (by omega) hlt ⟨(hg.trans f10).putNew _ _ (Nat.le_refl _), ?_⟩
    have := hset _ hr
    rw [part_set hlen (by simp; omega)] at this
    exact this
  · have hge := ge_of_dec hge
    refine ⟨_, [h.size], rfl, ?_, ⟨List.nodup_cons.2 ⟨by simp, List.nodup_nil⟩, fun x hx => by simp at hx; omega⟩, hg⟩
    rw [part_all hlen (by simp; omega)] at hs
    exact hs

theorem eqSnapStepS_ok {xs ys : List StepD} {a a' : Option Addr} {n n' c c' : Nat} {F G : List Nat} (hx : Sl kSI h xs a n c F) (hy : Sl kSI h ys a' n' c' G) :
    CallsH PP fn_laws_eqSnapStepS [.slice a n c, .slice a' n' c'] h fun v h' => v = .bool (decide (xs = ys)) ∧ Ext h h' := by
  refine calls_laws_eqSnapStepS _ _ _ _ _ _ ?_
  unfold M_laws_eqSnapStepS
  have hn := hx.1
  have hn' := hy.1
  refine ⟨fun hne => ?_, fun heq => ?_⟩
  · refine ⟨?_, Frm.refl _ _⟩
    have : xs ≠ ys := by rintro rfl; simp at hne; omega
    simp [this]
  · have heq : n = n' := by have h1 : (n : Int) = n' := by simpa using heq
                            omega
    refine ⟨UpI n fun i g => Ext h g ∧ xs.take i = ys.take i, UpM n, UpI.start ⟨Frm.refl _ _, rfl⟩, ?_⟩
    intro g x hI
    obtain ⟨i, hi, rfl, hg, hpre⟩ := hI.elim
    refine ⟨fun hlt => ?_, fun hge => ?_⟩
    · have hlt := lt_of_dec hlt
      obtain ⟨b, o, rfl, c0, c1, c2, c3, _⟩ := (hx.ext hg).stepAt (i := i) (by omega)
      obtain ⟨b', o', rfl, d0, d1, d2, d3, _⟩ := (hy.ext hg).stepAt (i := i) (by omega)
      refine ⟨b, o, rfl, by omega, by omega, _, c0, _, c1, _, c2, _, c3, b', o', rfl, by omega, by omega, _, d0, _, d1, _, d2, _, d3, (eqSnapStep_ok _ _).mono ?_⟩
      rintro v h' ⟨rfl, f'⟩
      refine ⟨_, rfl, fun hne => ?_, fun he => ?_⟩
      · refine ⟨?_, hg.trans f'⟩
        have : xs ≠ ys := by rintro rfl; simp at hne
        simp [this]
      · have he : xs[i] = ys[i] := by simpa using he
        refine UpI.next hx.2.1.2 hlt ⟨hg.trans f', ?_⟩
        rw [List.take_succ_eq_append_getElem (by omega), List.take_succ_eq_append_getElem (by omega), hpre, he]
    · have hge := ge_of_dec hge
      refine ⟨?_, hg⟩
      rw [List.take_of_length_le (by omega), List.take_of_length_le (by omega)] at hpre
      simp [hpre]

theorem Sl.stepCell {xs : List StepD} {a : Option Addr} {n c : Nat} {F : List Nat} {t : TypeId} (s : Sl (kStep t) h xs a n c F) (hF : F.Nodup) {i : Nat} (hi : i < xs.length) (j : Nat) (hj : j < 4) :
    ∃ b o row, a = some ⟨b, o, none⟩ ∧ b ∈ F ∧ Row h b t row ∧ o + i * 4 + j < row.length ∧ ∀ y, inI64 y → ∃ z, Sl (kStep t) (putRow h b t (row.set (o + i * 4 + j) (.int .i64 y))) (xs.set i z) a n c F := by
  obtain ⟨b, o, row, ci, Fi, ha, hb, r, hl, ⟨rfl, rfl, h1, h2, h3, h4⟩, _, _, hs⟩ := s.setCell hF hi (j := j) hj
  simp only [kStep, ← Nat.add_assoc] at hl hs
  refine ⟨b, o, row, ha, hb, r, hl, fun y hy => ?_⟩
  match j, hj with
  | 0, _ => exact ⟨⟨y, _, _, _⟩, hs _ _ ⟨rfl, trivial, hy, h2, h3, h4⟩⟩
  | 1, _ => exact ⟨⟨_, y, _, _⟩, hs _ _ ⟨rfl, trivial, h1, hy, h3, h4⟩⟩
  | 2, _ => exact ⟨⟨_, _, y, _⟩, hs _ _ ⟨rfl, trivial, h1, h2, hy, h4⟩⟩
  | 3, _ => exact ⟨⟨_, _, _, y⟩, hs _ _ ⟨rfl, trivial, h1, h2, h3, hy⟩⟩

theorem markSnapStepS_ok {xs : List StepD} {a : Option Addr} {n c : Nat} {F : List Nat} {k : Int} (hx : Sl kSI h xs a n c F) (hF : F.Nodup) (hk : 0 ≤ k) (hm : k + 4 * n < 4611686018427387904) :
    CallsH PP fn_laws_markSnapStepS [.slice a n c, .int .i64 k] h fun v h' => v = .int .i64 (k + 4 * n) ∧ Frm F h h' := by
  refine calls_laws_markSnapStepS _ _ _ _ ?_
  unfold M_laws_markSnapStepS
  have hn := hx.1
  refine ⟨UpK n fun i x g => x = k + 4 * i ∧ Frm F h g ∧ ∃ zs : List StepD, zs.length = n ∧ Sl kSI g zs a n c F, UpKM n, UpK.start ⟨by simp, Frm.refl _ _, xs, by omega, hx⟩, ?_⟩
  intro g x y hI
  obtain ⟨i, hi, rfl, rfl, hg, zs, hz, hs⟩ := hI.elim
  refine ⟨fun hlt => ?_, fun hge => ?_⟩
  · have hlt := lt_of_dec hlt
    have w1 : IntKind.i64.wrap (k + 4 * (i : Int) + 1) = k + 4 * i + 1 := wrap64_of (by omega) (by omega)
    have w2 : IntKind.i64.wrap (k + 4 * (i : Int) + 1 + 1) = k + 4 * i + 2 := by rw [wrap64_of (by omega) (by omega)]; omega
    have w3 : IntKind.i64.wrap (k + 4 * (i : Int) + 2 + 1) = k + 4 * i + 3 := by rw [wrap64_of (by omega) (by omega)]; omega
    have w4 : IntKind.i64.wrap (k + 4 * (i : Int) + 3 + 1) = k + 4 * i + 4 := by rw [wrap64_of (by omega) (by omega)]; omega
    rw [w1, w2, w3, w4]
    obtain ⟨b, o, row, rfl, hb, r, hl, hset⟩ := hs.stepCell hF (i := i) (by omega) 0 (by omega)
    refine ⟨b, o, rfl, by omega, by omega, _, row, r, hl, ?_⟩
    rintro g1 rfl
    obtain ⟨z1, hs⟩ := hset (k + 4 * i) ⟨by omega, by omega⟩
    have hg := hg.trans (Frm.put g ty_impl_SnapStep (row.set (o + i * 4 + 0) (.int .i64 (k + 4 * i))) hb)
    obtain ⟨b, o, row, he, hb, r, hl, hset⟩ := hs.stepCell hF (i := i) (by simp; omega) 1 (by omega)
    refine ⟨b, o, he, by omega, by omega, _, row, r, hl, ?_⟩
    rintro g2 rfl
    obtain ⟨z2, hs⟩ := hset (k + 4 * i + 1) ⟨by omega, by omega⟩
    have hg := hg.trans (Frm.put _ ty_impl_SnapStep (row.set (o + i * 4 + 1) (.int .i64 (k + 4 * i + 1))) hb)
    obtain ⟨b, o, row, he, hb, r, hl, hset⟩ := hs.stepCell hF (i := i) (by simp; omega) 2 (by omega)
    refine ⟨b, o, he, by omega, by omega, _, row, r, hl, ?_⟩
    rintro g3 rfl
    obtain ⟨z3, hs⟩ := hset (k + 4 * i + 2) ⟨by omega, by omega⟩
    have hg := hg.trans (Frm.put _ ty_impl_SnapStep (row.set (o + i * 4 + 2) (.int .i64 (k + 4 * i + 2))) hb)
    obtain ⟨b, o, row, he, hb, r, hl, hset⟩ := hs.stepCell hF (i := i) (by simp; omega) 3 (by omega)
    refine ⟨b, o, he, by omega, by omega, _, row, r, hl, ?_⟩
    rintro g4 rfl
    obtain ⟨z4, hs⟩ := hset (k + 4 * i + 3) ⟨by omega, by omega⟩
    have hg := hg.trans (Frm.put _ ty_impl_SnapStep (row.set (o + i * 4 + 3) (.int .i64 (k + 4 * i + 3))) hb)
    exact UpK.next hx.2.1.2 hlt ⟨by omega, hg, _, by simp; omega, hs⟩
  · have hge := ge_of_dec hge
    have hin : i = n := by omega
    subst hin
    exact ⟨rfl, hg⟩

/-! ### Banks -/

theorem eqBank_ok {x y : BankD} {d e : BankH} {F0 F1 F2 F3 F4 G0 G1 G2 G3 G4 : List Nat} (hx : BankAt h x d F0 F1 F2 F3 F4) (hy : BankAt h y e G0 G1 G2 G3 G4) :
    CallsH PP fn_laws_eqBank [.agg ⟨d.cells⟩, .agg ⟨e.cells⟩] h fun v h' => v = .bool (decide (x = y)) ∧ Ext h h' := by
  refine calls_laws_eqBank _ _ _ _ _ _ _ _ _ _ _ _ _ _ _ _ _ _ _ _ _ _ _ _ _ _ _ _ _ _ ?_
  unfold M_laws_eqBank
  intro h1 e1
  obtain ⟨r1, f1, s1⟩ := newStep e1
  intro h2 e2
  obtain ⟨r2, f2, s2⟩ := newStep e2
  have r1 := r1.frm f2 (by simp)
  have f := f1.trans f2
  have hx := hx.ext f
  have hy := hy.ext f
  have no : ∀ {p : Prop} [Decidable p], ¬ p → Value.bool false = .bool (decide p) := fun hp => by simp [hp]
  refine ⟨_, _, _, r1.at rfl, _, _, _, r2.at rfl, (eqIntS_ok hx.s0 hy.s0).mono ?_⟩
  rintro v h' ⟨rfl, rfl⟩
  refine ⟨_, rfl, fun hne => ⟨no (by rintro rfl; simp at hne), f⟩, fun g0 => ?_⟩
  refine ⟨_, _, _, r1.at rfl, _, _, _, r2.at rfl, (eqIntSS_ok hx.s1 hy.s1).mono ?_⟩
  rintro v h' ⟨rfl, rfl⟩
  refine ⟨_, rfl, fun hne => ⟨no (by rintro rfl; simp at hne), f⟩, fun g1 => ?_⟩
  refine ⟨_, _, _, r1.at rfl, _, _, _, r2.at rfl, (eqIntS_ok hx.s2 hy.s2).mono ?_⟩
  rintro v h' ⟨rfl, rfl⟩
  refine ⟨_, rfl, fun hne => ⟨no (by rintro rfl; simp at hne), f⟩, fun g2 => ?_⟩
  refine ⟨_, _, _, r1.at rfl, _, _, _, r2.at rfl, (eqBoolSS_ok hx.s3 hy.s3).mono ?_⟩
  rintro v h' ⟨rfl, rfl⟩
  refine ⟨_, rfl, fun hne => ⟨no (by rintro rfl; simp at hne), f⟩, fun g3 => ?_⟩
  refine ⟨_, _, _, r1.at rfl, _, _, _, r2.at rfl, (eqIntSS_ok hx.s4 hy.s4).mono ?_⟩
  rintro v h' ⟨rfl, rfl⟩
  refine ⟨_, rfl, fun hne => ⟨no (by rintro rfl; simp at hne), f⟩, fun g4 => ⟨?_, f⟩⟩
  obtain ⟨x0, x1, x2, x3, x4⟩ := x
  obtain ⟨y0, y1, y2, y3, y4⟩ := y
  simp at g0 g1 g2 g3 g4
  subst g0 g1 g2 g3 g4
  simp
end
end Go.Proofs.Ytjmhahjmbmiepaa.D
