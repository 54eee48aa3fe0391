/- Contracts: banks compared, as the laws over drawn banks do. -/
import Derived.Test.YtjmhahjmbmiepaaSepD
import Derived.Test.YtjmhahjmbmiepaaSepE
import Derived.Test.YtjmhahjmbmiepaaMd
namespace Go.Proofs.Ytjmhahjmbmiepaa.D
open Go
set_option linter.unusedVariables false
set_option linter.unusedSimpArgs false

section
variable {h : Heap}
theorem sameInts_ok {xs ys : List Int} {a a' : Option Addr} {n n' c c' : Nat} {F G : List Nat} (hx : Sl kI h xs a n c F) (hy : Sl kI h ys a' n' c' G) :
    CallsH PP fn_laws_sameInts [.slice a n c, .slice a' n' c'] h fun v h' => v = .bool (decide (xs = ys)) ∧ h' = h := by
  refine calls_laws_sameInts _ _ _ _ _ _ ?_
  unfold M_laws_sameInts
  have hn := hx.1
  have hn' := hy.1
  refine ⟨fun hne => ?_, fun heq => ?_⟩
  · refine ⟨?_, rfl⟩
    have : xs ≠ ys := by rintro rfl; simp at hne; omega
    simp [this]
  · have heq : n = n' := by have h1 : (n : Int) = n' := by simpa using heq
                            omega
    refine ⟨UpI n fun i g => g = h ∧ xs.take i = ys.take i, UpM n, UpI.start ⟨rfl, rfl⟩, ?_⟩
    intro g x hI
    obtain ⟨i, hi, rfl, rfl, hpre⟩ := hI.elim
    refine ⟨fun hlt => ?_, fun hge => ?_⟩
    · have hlt := lt_of_dec hlt
      obtain ⟨b, o, rfl, hcell, _⟩ := hx.intAt (i := i) (by omega)
      obtain ⟨b', o', rfl, hcell', _⟩ := hy.intAt (i := i) (by omega)
      refine ⟨b, o, rfl, by omega, by omega, _, hcell, b', o', rfl, by omega, by omega, _, hcell', ?_, ?_⟩
      · intro hne
        refine ⟨?_, rfl⟩
        have : xs ≠ ys := by rintro rfl; simp at hne
        simp [this]
      · intro he
        have he : xs[i] = ys[i] := by simpa using he
        refine UpI.next hx.2.1.2 hlt ⟨rfl, ?_⟩
        rw [List.take_succ_eq_append_getElem (by omega), List.take_succ_eq_append_getElem (by omega), hpre, he]
    · have hge := ge_of_dec hge
      refine ⟨?_, rfl⟩
      rw [List.take_of_length_le (by omega), List.take_of_length_le (by omega)] at hpre
      simp [hpre]

theorem sameBools_ok {xs ys : List Bool} {a a' : Option Addr} {n n' c c' : Nat} {F G : List Nat} (hx : Sl kB h xs a n c F) (hy : Sl kB h ys a' n' c' G) :
    CallsH PP fn_laws_sameBools [.slice a n c, .slice a' n' c'] h fun v h' => v = .bool (decide (xs = ys)) ∧ h' = h := by
  refine calls_laws_sameBools _ _ _ _ _ _ ?_
  unfold M_laws_sameBools
  have hn := hx.1
  have hn' := hy.1
  refine ⟨fun hne => ?_, fun heq => ?_⟩
  · refine ⟨?_, rfl⟩
    have : xs ≠ ys := by rintro rfl; simp at hne; omega
    simp [this]
  · have heq : n = n' := by have h1 : (n : Int) = n' := by simpa using heq
                            omega
    refine ⟨UpI n fun i g => g = h ∧ xs.take i = ys.take i, UpM n, UpI.start ⟨rfl, rfl⟩, ?_⟩
    intro g x hI
    obtain ⟨i, hi, rfl, rfl, hpre⟩ := hI.elim
    refine ⟨fun hlt => ?_, fun hge => ?_⟩
    · have hlt := lt_of_dec hlt
      obtain ⟨b, o, rfl, hcell⟩ := hx.boolAt (i := i) (by omega)
      obtain ⟨b', o', rfl, hcell'⟩ := hy.boolAt (i := i) (by omega)
      refine ⟨b, o, rfl, by omega, by omega, _, hcell, b', o', rfl, by omega, by omega, _, hcell', ?_, ?_⟩
      · intro hne
        refine ⟨?_, rfl⟩
        have : xs ≠ ys := by rintro rfl; simp at hne
        simp [this]
      · intro he
        have he : xs[i] = ys[i] := by simpa using he
        refine UpI.next hx.2.1.2 hlt ⟨rfl, ?_⟩
        rw [List.take_succ_eq_append_getElem (by omega), List.take_succ_eq_append_getElem (by omega), hpre, he]
    · have hge := ge_of_dec hge
      refine ⟨?_, rfl⟩
      rw [List.take_of_length_le (by omega), List.take_of_length_le (by omega)] at hpre
      simp [hpre]

theorem sameRows_ok {xs ys : List (List Int)} {a a' : Option Addr} {n n' c c' : Nat} {F G : List Nat} (hx : Sl kIS h xs a n c F) (hy : Sl kIS h ys a' n' c' G) :
    CallsH PP fn_laws_sameRows [.slice a n c, .slice a' n' c'] h fun v h' => v = .bool (decide (xs = ys)) ∧ h' = h := by
  refine calls_laws_sameRows _ _ _ _ _ _ ?_
  unfold M_laws_sameRows
  have hn := hx.1
  have hn' := hy.1
  refine ⟨fun hne => ?_, fun heq => ?_⟩
  · refine ⟨?_, rfl⟩
    have : xs ≠ ys := by rintro rfl; simp at hne; omega
    simp [this]
  · have heq : n = n' := by have h1 : (n : Int) = n' := by simpa using heq
                            omega
    refine ⟨UpI n fun i g => g = h ∧ xs.take i = ys.take i, UpM n, UpI.start ⟨rfl, rfl⟩, ?_⟩
    intro g x hI
    obtain ⟨i, hi, rfl, rfl, hpre⟩ := hI.elim
    refine ⟨fun hlt => ?_, fun hge => ?_⟩
    · have hlt := lt_of_dec hlt
      obtain ⟨b, o, ai, ni, ci, Fi, rfl, hcell, si, _⟩ := hx.slAt (i := i) (by omega)
      obtain ⟨b', o', ai', ni', ci', Fi', rfl, hcell', si', _⟩ := hy.slAt (i := i) (by omega)
      refine ⟨b, o, rfl, by omega, by omega, _, _, _, hcell, b', o', rfl, by omega, by omega, _, _, _, hcell', ?_⟩
      refine (sameInts_ok si si').mono ?_
      rintro v h' ⟨rfl, rfl⟩
      refine ⟨_, rfl, fun hne => ?_, fun he => ?_⟩
      · refine ⟨?_, rfl⟩
        have : xs ≠ ys := by rintro rfl; simp at hne
        simp [this]
      · have he : xs[i] = ys[i] := by simpa using he
        refine UpI.next hx.2.1.2 hlt ⟨rfl, ?_⟩
        rw [List.take_succ_eq_append_getElem (by omega), List.take_succ_eq_append_getElem (by omega), hpre, he]
    · have hge := ge_of_dec hge
      refine ⟨?_, rfl⟩
      rw [List.take_of_length_le (by omega), List.take_of_length_le (by omega)] at hpre
      simp [hpre]


theorem sameBanks_ok {x : BankD} {d e : BankH} {F0 F1 F2 F3 F4 G0 G1 G2 G3 G4 : List Nat} (hx : BankAt h x d F0 F1 F2 F3 F4) (hy : BankAt h x e G0 G1 G2 G3 G4) :
    CallsH PP fn_laws_sameBanks [.agg ⟨d.cells⟩, .agg ⟨e.cells⟩] h fun v h' => v = .bool true ∧ Ext h h' := by
  refine calls_laws_sameBanks _ _ _ _ _ _ _ _ _ _ _ _ _ _ _ _ _ _ _ _ _ _ _ _ _ _ _ _ _ _ ?_
  unfold M_laws_sameBanks
  intro h1 e1
  obtain ⟨r1, f1, s1⟩ := newStep e1
  intro h2 e2
  obtain ⟨r2, f2, s2⟩ := newStep e2
  have r1 := r1.frm f2 (by simp)
  have f := f1.trans f2
  have hx := hx.ext f
  have hy := hy.ext f
  refine ⟨_, _, _, r1.at rfl, _, _, _, r2.at rfl, (sameInts_ok hx.s0 hy.s0).mono ?_⟩
  rintro v h' ⟨rfl, rfl⟩
  refine ⟨_, rfl, fun _ => ?_, fun hh => absurd hh (by simp)⟩
  refine ⟨_, _, _, r1.at rfl, _, _, _, r2.at rfl, (sameRows_ok hx.s1 hy.s1).mono ?_⟩
  rintro v h' ⟨rfl, rfl⟩
  refine ⟨_, rfl, fun _ => ?_, fun hh => absurd hh (by simp)⟩
  refine ⟨_, _, _, r1.at rfl, _, _, _, r2.at rfl, (sameInts_ok hx.s2 hy.s2).mono ?_⟩
  rintro v h' ⟨rfl, rfl⟩
  refine ⟨_, rfl, fun _ => ?_, fun hh => absurd hh (by simp)⟩
  refine ⟨_, _, _, r1.at rfl, _, _, _, r2.at rfl, (sameRows_ok hx.s4 hy.s4).mono ?_⟩
  rintro v h' ⟨rfl, rfl⟩
  refine ⟨_, rfl, fun _ => ?_, fun hh => absurd hh (by simp)⟩
  have hn := hx.s3.1
  have hn' := hy.s3.1
  refine ⟨_, _, _, r1.at rfl, _, _, _, r2.at rfl, fun hh => absurd hh (by rw [hn, hn']; simp), fun _ => ?_⟩
  refine ⟨_, _, _, r1.at rfl, UpI d.d3.n fun i g => g = h', UpM d.d3.n, UpI.start rfl, ?_⟩
  intro g y hI
  obtain ⟨i, hi, rfl, rfl⟩ := hI.elim
  refine ⟨fun hlt => ?_, fun _ => ⟨rfl, f⟩⟩
  have hlt := lt_of_dec hlt
  obtain ⟨b, o, ai, ni, ci, Fi, ha, hcell, si, _⟩ := hx.s3.slAt (i := i) (by omega)
  obtain ⟨b', o', ai', ni', ci', Fi', ha', hcell', si', _⟩ := hy.s3.slAt (i := i) (by omega)
  refine ⟨_, _, _, r1.at rfl, b, o, ha, by omega, by omega, _, _, _, hcell, _, _, _, r2.at rfl, b', o', ha', by omega, by omega, _, _, _, hcell', ?_⟩
  refine (sameBools_ok si si').mono ?_
  rintro v h' ⟨rfl, rfl⟩
  refine ⟨_, rfl, fun hh => absurd hh (by simp), fun _ => ?_⟩
  exact UpI.next hx.s3.2.1.2 hlt rfl
end
end Go.Proofs.Ytjmhahjmbmiepaa.D
