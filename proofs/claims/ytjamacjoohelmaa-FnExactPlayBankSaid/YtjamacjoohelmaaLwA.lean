/- The law of plays: whatever the input, it answers true. -/
import Derived.Test.YtjamacjoohelmaaSepD
import Derived.Test.YtjamacjoohelmaaMc
namespace Go.Proofs.Ytjamacjoohelmaa.D
open Go
set_option linter.unusedVariables false

set_option maxRecDepth 100000 in
theorem FnExactPlayBank_ok {h0 : Heap} {xs : List Int} {ss : List StepD} {a a2 : Option Addr} {n c n2 c2 : Nat} (hx : RdI h0 xs a n) (hs : RdS h0 ss a2 n2) :
    CallsH PP fn_laws_FnExactPlayBank [.slice a n c, .slice a2 n2 c2] h0 fun v h' => v = .bool true ∧ Ext h0 h' := by
  refine calls_laws_FnExactPlayBank _ _ _ _ _ _ ?_
  unfold M_laws_FnExactPlayBank
  refine ⟨fun _ => ⟨rfl, Frm.refl _ _⟩, fun hle => ?_⟩
  have hle : n ≤ 1048576 := by have := of_decide_eq_false hle; omega
  have hl2 := hs.lt
  refine (szSnapStepS_ok (by omega) (by omega) hl2).mono ?_
  rintro v h' ⟨rfl, rfl⟩
  refine ⟨_, rfl, fun _ => ⟨rfl, Frm.refl _ _⟩, fun hle2 => ?_⟩
  have hle2 : n2 ≤ 1048576 := by
    have := of_decide_eq_false hle2
    rcases Nat.lt_or_ge 1048576 n2 with hh | hh
    · rw [if_pos (by omega)] at this; omega
    · exact hh
  have psz := play_size xs ss
  have H := Own.start h'
  refine (toIntS_own hx m0 H hle).mono ?_
  rintro v g2 ⟨a1, rfl, H⟩
  refine ⟨_, _, _, rfl, ?_⟩
  refine (toSnapStepS_own hs m1 H hle2).mono ?_
  rintro v g4 ⟨a3, rfl, H⟩
  refine ⟨_, _, _, rfl, ?_⟩
  refine (spec_PlayBank_ok hle (H.p1)).mono ?_
  rintro v g9 ⟨d5, a6, n7, c8, rfl, H⟩
  refine ⟨_, _, _, _, _, _, _, _, _, _, _, _, _, _, _, _, _, _, _, rfl, ?_⟩
  have wl := H.len m5
  intro g11 e10
  have H := H.newE e10
  refine ⟨_, _, H.row m0, by simp [BankH.cells], ?_⟩
  intro g13 e12
  have H := (H).putE e12
  have H := (H.p7).drop
  have H := (H.p7).drop
  refine (toIntS_own hx m7 H hle).mono ?_
  rintro v g15 ⟨a14, rfl, H⟩
  refine ⟨_, _, _, rfl, ?_⟩
  refine (toSnapStepS_own hs m8 H hle2).mono ?_
  rintro v g17 ⟨a16, rfl, H⟩
  refine ⟨_, _, _, rfl, ?_⟩
  refine (impl_PlayBank_ok hle (H.p1)).mono ?_
  rintro v g22 ⟨d18, a19, n20, c21, rfl, H⟩
  refine ⟨_, _, _, _, _, _, _, _, _, _, _, _, _, _, _, _, _, _, _, rfl, ?_⟩
  have gl := H.len m5
  intro g24 e23
  have H := H.newE e23
  refine ⟨_, _, H.row m0, by simp [BankH.cells], ?_⟩
  intro g26 e25
  have H := (H).putE e25
  refine ⟨_, _, _, H.cell m0 rfl, _, _, _, H.cell m0 rfl, _, _, _, H.cell m0 rfl, _, _, _, H.cell m0 rfl, _, _, _, H.cell m0 rfl, ?_⟩
  refine ⟨_, _, _, H.cell m9 rfl, _, _, _, H.cell m9 rfl, _, _, _, H.cell m9 rfl, _, _, _, H.cell m9 rfl, _, _, _, H.cell m9 rfl, ?_⟩
  refine (eqBank_own H (H.p5.p5.p5.p5.p5) (H.p14.p14.p14.p14.p14)).mono ?_
  rintro v g27 ⟨rfl, H⟩
  refine ⟨_, rfl, fun _ => ?_, fun hh => absurd hh (by simp)⟩
  refine (eqBoolS_own m6 m15 H).mono ?_
  rintro v g28 ⟨rfl, H⟩
  refine ⟨_, rfl, fun _ => ?_, fun hh => absurd hh (by simp)⟩
  refine ⟨fun hh => absurd hh (by simp), fun _ => ?_⟩
  refine (toIntS_own hx m16 H hle).mono ?_
  rintro v g30 ⟨a29, rfl, H⟩
  refine ⟨_, _, _, rfl, ?_⟩
  refine (eqIntS_own m8 m0 H).mono ?_
  rintro v g31 ⟨rfl, H⟩
  refine ⟨_, rfl, fun hh => absurd hh (by simp), fun _ => ?_⟩
  have H := (H).drop
  refine (toSnapStepS_own hs m16 H hle2).mono ?_
  rintro v g33 ⟨a32, rfl, H⟩
  refine ⟨_, _, _, rfl, ?_⟩
  refine (eqSnapStepS_own m9 m0 H).mono ?_
  rintro v g34 ⟨rfl, H⟩
  refine ⟨_, rfl, fun hh => absurd hh (by simp), fun _ => ?_⟩
  have H := (H).drop
  refine (markIntS_own (H.p7) (by omega) (by omega)).mono ?_
  rintro v g35 ⟨rfl, H⟩
  refine ⟨_, rfl, ?_⟩
  refine (markSnapStepS_own (H.p8) (by omega) (by omega)).mono ?_
  rintro v g36 ⟨rfl, H⟩
  refine ⟨_, rfl, fun _ => ?_, fun hh => absurd (of_decide_eq_true hh) (by omega)⟩
  refine ⟨_, _, _, H.cell m1 rfl, _, _, _, H.cell m1 rfl, _, _, _, H.cell m1 rfl, _, _, _, H.cell m1 rfl, _, _, _, H.cell m1 rfl, ?_⟩
  refine ⟨_, _, _, H.cell m8 rfl, _, _, _, H.cell m8 rfl, _, _, _, H.cell m8 rfl, _, _, _, H.cell m8 rfl, _, _, _, H.cell m8 rfl, ?_⟩
  refine (eqBank_own H (H.p6.p6.p6.p6.p6) (H.p13.p13.p13.p13.p13)).mono ?_
  rintro v g37 ⟨rfl, H⟩
  refine ⟨_, rfl, fun _ => ?_, fun hh => absurd hh (by simp)⟩
  refine (eqBoolS_own m7 m14 H).mono ?_
  rintro v g38 ⟨rfl, H⟩
  refine ⟨_, rfl, fun _ => ?_, fun hh => absurd hh (by simp)⟩
  refine ⟨fun hh => absurd hh (by simp), fun _ => ?_⟩
  refine ⟨_, _, _, H.cell m1 rfl, _, _, _, H.cell m1 rfl, _, _, _, H.cell m1 rfl, _, _, _, H.cell m1 rfl, _, _, _, H.cell m1 rfl, ?_⟩
  refine (markBank_own (H.p6.p6.p6.p6.p6) (by omega) (by omega)).mono ?_
  rintro v g39 ⟨rfl, H⟩
  refine ⟨_, rfl, ?_⟩
  refine (markBoolS_own (H.p7) (by omega) (by omega)).mono ?_
  rintro v g40 ⟨rfl, H⟩
  refine ⟨_, rfl, ?_⟩
  refine ⟨_, _, _, H.cell m7 rfl, _, _, _, H.cell m7 rfl, _, _, _, H.cell m7 rfl, _, _, _, H.cell m7 rfl, _, _, _, H.cell m7 rfl, ?_⟩
  refine (heldBank_own H (H.p5.p5.p5.p5.p5) (by omega) (by omega)).mono ?_
  rintro v g41 ⟨rfl, H⟩
  refine ⟨_, rfl, fun hh => absurd (of_decide_eq_true hh) (by omega), fun _ => ?_⟩
  refine (heldBoolS_own m0 H (by omega) (by omega)).mono ?_
  rintro v g42 ⟨rfl, H⟩
  refine ⟨_, rfl, fun hh => absurd (of_decide_eq_true hh) (by omega), fun _ => ?_⟩
  refine ⟨fun hh => absurd hh (by simp), fun _ => ?_⟩
  refine (toIntS_own hx m15 H hle).mono ?_
  rintro v g44 ⟨a43, rfl, H⟩
  refine ⟨_, _, _, rfl, ?_⟩
  refine (toSnapStepS_own hs m16 H hle2).mono ?_
  rintro v g46 ⟨a45, rfl, H⟩
  refine ⟨_, _, _, rfl, ?_⟩
  refine (impl_PlayBank_ok hle (H.p1)).mono ?_
  rintro v g51 ⟨d47, a48, n49, c50, rfl, H⟩
  refine ⟨_, _, _, _, _, _, _, _, _, _, _, _, _, _, _, _, _, _, _, rfl, ?_⟩
  have hl := H.len m5
  intro g53 e52
  have H := H.newE e52
  refine ⟨_, _, H.row m0, by simp [BankH.cells], ?_⟩
  intro g55 e54
  have H := (H).putE e54
  refine ⟨_, _, _, H.cell m0 rfl, _, _, _, H.cell m0 rfl, _, _, _, H.cell m0 rfl, _, _, _, H.cell m0 rfl, _, _, _, H.cell m0 rfl, ?_⟩
  refine ⟨_, _, _, H.cell m17 rfl, _, _, _, H.cell m17 rfl, _, _, _, H.cell m17 rfl, _, _, _, H.cell m17 rfl, _, _, _, H.cell m17 rfl, ?_⟩
  refine (eqBank_own H (H.p5.p5.p5.p5.p5) (H.p22.p22.p22.p22.p22)).mono ?_
  rintro v g56 ⟨rfl, H⟩
  refine ⟨_, rfl, fun _ => ?_, fun hh => absurd hh (by simp)⟩
  refine (eqBoolS_own m6 m23 H).mono ?_
  rintro v g57 ⟨rfl, H⟩
  refine ⟨_, rfl, fun _ => ?_, fun hh => absurd hh (by simp)⟩
  refine ⟨fun hh => absurd hh (by simp), fun _ => ?_⟩
  refine ⟨_, _, _, H.cell m16 rfl, _, _, _, H.cell m16 rfl, _, _, _, H.cell m16 rfl, _, _, _, H.cell m16 rfl, _, _, _, H.cell m16 rfl, ?_⟩
  refine (heldBank_own H (H.p14.p14.p14.p14.p14) (by omega) (by omega)).mono ?_
  rintro v g58 ⟨rfl, H⟩
  refine ⟨_, rfl, fun hh => absurd (of_decide_eq_true hh) (by omega), fun _ => ?_⟩
  refine (heldBoolS_own m9 H (by omega) (by omega)).mono ?_
  rintro v g59 ⟨rfl, H⟩
  refine ⟨_, rfl, fun hh => absurd (of_decide_eq_true hh) (by omega), fun _ => ?_⟩
  refine ⟨fun hh => absurd hh (by simp), fun _ => ?_⟩
  exact ⟨rfl, H.old m24⟩
end Go.Proofs.Ytjamacjoohelmaa.D
