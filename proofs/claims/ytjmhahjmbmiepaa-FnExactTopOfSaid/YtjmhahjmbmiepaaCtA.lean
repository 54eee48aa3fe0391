/- Contracts: copies, comparisons, marks of lists of numbers and bools. -/
import Derived.Test.YtjmhahjmbmiepaaBnkA
import Derived.Test.YtjmhahjmbmiepaaMl
namespace Go.Proofs.Ytjmhahjmbmiepaa.D
open Go
set_option linter.unusedVariables false
set_option linter.unusedSimpArgs false

section
variable {h : Heap}

theorem eqIntS_ok {xs ys : List Int} {a a' : Option Addr} {n n' c c' : Nat} {F G : List Nat} (hx : Sl kI h xs a n c F) (hy : Sl kI h ys a' n' c' G) :
    CallsH PP fn_laws_eqIntS [.slice a n c, .slice a' n' c'] h fun v h' => v = .bool (decide (xs = ys)) ∧ h' = h := by
  refine calls_laws_eqIntS _ _ _ _ _ _ ?_
  unfold M_laws_eqIntS
  have hn := hx.1
  have hn' := hy.1
  refine ⟨fun hne => ?_, fun heq => ?_⟩
  · refine ⟨?_, rfl⟩
    have : xs ≠ ys := by rintro rfl; simp at hne; omega
    simp [this]
  · have heq : n = n' := by have h1 : (n : Int) = n' := by simpa using heq
                            omega
    refine ⟨UpI n fun i g => g = h ∧ xs.take i = ys.take i, UpM n, UpI.start ⟨rfl, rfl⟩, ?_⟩
    intro g x hI
    obtain ⟨i, hi, rfl, rfl, hpre⟩ := hI.elim
    refine ⟨fun hlt => ?_, fun hge => ?_⟩
    · have hlt := lt_of_dec hlt
      obtain ⟨b, o, rfl, hcell, _⟩ := hx.intAt (i := i) (by omega)
      obtain ⟨b', o', rfl, hcell', _⟩ := hy.intAt (i := i) (by omega)
      refine ⟨b, o, rfl, by omega, by omega, _, hcell, b', o', rfl, by omega, by omega, _, hcell', ?_, ?_⟩
      · intro hne
        refine ⟨?_, rfl⟩
        have : xs ≠ ys := by rintro rfl; simp at hne
        simp [this]
      · intro he
        have he : xs[i] = ys[i] := by simpa using he
        refine UpI.next hx.2.1.2 hlt ⟨rfl, ?_⟩
        rw [List.take_succ_eq_append_getElem (by omega), List.take_succ_eq_append_getElem (by omega), hpre, he]
    · have hge := ge_of_dec hge
      refine ⟨?_, rfl⟩
      rw [List.take_of_length_le (by omega), List.take_of_length_le (by omega)] at hpre
      simp [hpre]

theorem eqBoolS_ok {xs ys : List Bool} {a a' : Option Addr} {n n' c c' : Nat} {F G : List Nat} (hx : Sl kB h xs a n c F) (hy : Sl kB h ys a' n' c' G) :
    CallsH PP fn_laws_eqBoolS [.slice a n c, .slice a' n' c'] h fun v h' => v = .bool (decide (xs = ys)) ∧ h' = h := by
  refine calls_laws_eqBoolS _ _ _ _ _ _ ?_
  unfold M_laws_eqBoolS
  have hn := hx.1
  have hn' := hy.1
  refine ⟨fun hne => ?_, fun heq => ?_⟩
  · refine ⟨?_, rfl⟩
    have : xs ≠ ys := by rintro rfl; simp at hne; omega
    simp [this]
  · have heq : n = n' := by have h1 : (n : Int) = n' := by simpa using heq
                            omega
    refine ⟨UpI n fun i g => g = h ∧ xs.take i = ys.take i, UpM n, UpI.start ⟨rfl, rfl⟩, ?_⟩
    intro g x hI
    obtain ⟨i, hi, rfl, rfl, hpre⟩ := hI.elim
    refine ⟨fun hlt => ?_, fun hge => ?_⟩
    · have hlt := lt_of_dec hlt
      obtain ⟨b, o, rfl, hcell⟩ := hx.boolAt (i := i) (by omega)
      obtain ⟨b', o', rfl, hcell'⟩ := hy.boolAt (i := i) (by omega)
      refine ⟨b, o, rfl, by omega, by omega, _, hcell, b', o', rfl, by omega, by omega, _, hcell', ?_, ?_⟩
      · intro hne
        refine ⟨?_, rfl⟩
        have : xs ≠ ys := by rintro rfl; simp at hne
        simp [this]
      · intro he
        have he : xs[i] = ys[i] := by simpa using he
        refine UpI.next hx.2.1.2 hlt ⟨rfl, ?_⟩
        rw [List.take_succ_eq_append_getElem (by omega), List.take_succ_eq_append_getElem (by omega), hpre, he]
    · have hge := ge_of_dec hge
      refine ⟨?_, rfl⟩
      rw [List.take_of_length_le (by omega), List.take_of_length_le (by omega)] at hpre
      simp [hpre]

theorem eqIntSS_ok {xs ys : List (List Int)} {a a' : Option Addr} {n n' c c' : Nat} {F G : List Nat} (hx : Sl kIS h xs a n c F) (hy : Sl kIS h ys a' n' c' G) :
    CallsH PP fn_laws_eqIntSS [.slice a n c, .slice a' n' c'] h fun v h' => v = .bool (decide (xs = ys)) ∧ h' = h := by
  refine calls_laws_eqIntSS _ _ _ _ _ _ ?_
  unfold M_laws_eqIntSS
  have hn := hx.1
  have hn' := hy.1
  refine ⟨fun hne => ?_, fun heq => ?_⟩
  · refine ⟨?_, rfl⟩
    have : xs ≠ ys := by rintro rfl; simp at hne; omega
    simp [this]
  · have heq : n = n' := by have h1 : (n : Int) = n' := by simpa using heq
                            omega
    refine ⟨UpI n fun i g => g = h ∧ xs.take i = ys.take i, UpM n, UpI.start ⟨rfl, rfl⟩, ?_⟩
    intro g x hI
    obtain ⟨i, hi, rfl, rfl, hpre⟩ := hI.elim
    refine ⟨fun hlt => ?_, fun hge => ?_⟩
    · have hlt := lt_of_dec hlt
      obtain ⟨b, o, ai, ni, ci, Fi, rfl, hcell, si, _⟩ := hx.slAt (i := i) (by omega)
      obtain ⟨b', o', ai', ni', ci', Fi', rfl, hcell', si', _⟩ := hy.slAt (i := i) (by omega)
      refine ⟨b, o, rfl, by omega, by omega, _, _, _, hcell, b', o', rfl, by omega, by omega, _, _, _, hcell', ?_⟩
      refine (eqIntS_ok si si').mono ?_
      rintro v h' ⟨rfl, rfl⟩
      refine ⟨_, rfl, fun hne => ?_, fun he => ?_⟩
      · refine ⟨?_, rfl⟩
        have : xs ≠ ys := by rintro rfl; simp at hne
        simp [this]
      · have he : xs[i] = ys[i] := by simpa using he
        refine UpI.next hx.2.1.2 hlt ⟨rfl, ?_⟩
        rw [List.take_succ_eq_append_getElem (by omega), List.take_succ_eq_append_getElem (by omega), hpre, he]
    · have hge := ge_of_dec hge
      refine ⟨?_, rfl⟩
      rw [List.take_of_length_le (by omega), List.take_of_length_le (by omega)] at hpre
      simp [hpre]

theorem toIntS_ok {xs : List Int} {a : Option Addr} {n c : Nat} (hx : RdI h xs a n) (hmax : n ≤ 1099511627776) :
    CallsH PP fn_laws_toIntS [.slice a n c] h fun v h' => ∃ a' F', v = .slice a' n n ∧ Sl kI h' xs a' n n F' ∧ Fresh h F' ∧ Ext h h' := by
  refine calls_laws_toIntS _ _ _ ?_
  unfold M_laws_toIntS
  have hn := hx.len
  refine ⟨by omega, by omega, by omega, by omega, ?_⟩
  intro h2 e2
  have zero : Sl kI h2 (List.replicate n (0 : Int)) (some ⟨h.size, 0, none⟩) n n [h.size] := by
    have e : Els kI h (List.replicate n (0 : Int)) (List.replicate n (.int .i64 0)) [] := by
      clear hx hmax e2 hn
      induction n with
      | zero => exact ⟨rfl, rfl⟩
      | succ n ih => exact ⟨[.int .i64 0], List.replicate n (.int .i64 0), [], [], rfl, rfl, ⟨rfl, rfl, by unfold inI64; omega⟩, ih⟩
    have := Sl.made kI h (c := n) (post := []) e (by simp) (by simp) (by simp; omega)
    simp only [List.length_replicate, List.append_nil] at this
    rw [e2]
    exact this
  have f2 : Ext h h2 := by rw [e2]; exact Frm.new _ _ _ _
  refine ⟨UpI n fun i g => Ext h g ∧ Sl kI g (part xs (List.replicate n (0 : Int)) i) (some ⟨h.size, 0, none⟩) n n [h.size], UpM n, UpI.start ⟨f2, by rw [part_zero]; exact zero⟩, ?_⟩
  intro g x hI
  obtain ⟨i, hi, rfl, hg, hs⟩ := hI.elim
  have hlen : xs.length = (List.replicate n (0 : Int)).length := by simp [hn]
  refine ⟨fun hlt => ?_, fun hge => ?_⟩
  · have hlt := lt_of_dec hlt
    obtain ⟨b, o, rfl, hcell, hr⟩ := (hx.ext hg).at_ (i := i) (by omega)
    refine ⟨b, o, rfl, by omega, by omega, _, hcell, by omega, by omega, ?_⟩
    obtain ⟨b', o', row, hb, _, r, hl, hset⟩ := hs.setInt (List.nodup_cons.2 ⟨by simp, List.nodup_nil⟩) (i := i) (by rw [part_length hlen]; simp; omega)
    simp at hb
    obtain ⟨rfl, rfl⟩ := hb
    refine ⟨_, row, r, hl, ?_⟩
    rintro h8 rfl
    refine UpI.next (by omega) hlt ⟨hg.putNew _ _ (Nat.le_refl _), ?_⟩
    have := hset _ hr
    rw [part_set hlen (by simp; omega)] at this
    exact this
  · have hge := ge_of_dec hge
    refine ⟨_, [h.size], rfl, ?_, ⟨List.nodup_cons.2 ⟨by simp, List.nodup_nil⟩, fun x hx => by simp at hx; omega⟩, hg⟩
    rw [part_all hlen (by simp; omega)] at hs
    exact hs

theorem markIntS_ok {xs : List Int} {a : Option Addr} {n c : Nat} {F : List Nat} {k : Int} (hx : Sl kI h xs a n c F) (hF : F.Nodup) (hk : 0 ≤ k) (hm : k + n < 4611686018427387904) :
    CallsH PP fn_laws_markIntS [.slice a n c, .int .i64 k] h fun v h' => v = .int .i64 (k + n) ∧ Sl kI h' (mkI k xs) a n c F ∧ Frm F h h' := by
  refine calls_laws_markIntS _ _ _ _ ?_
  unfold M_laws_markIntS
  have hn := hx.1
  have hlen : (mkI k xs).length = xs.length := mkI_length _ _
  refine ⟨UpK n fun i x g => x = k + i ∧ Frm F h g ∧ Sl kI g (part (mkI k xs) xs i) a n c F, UpKM n, UpK.start ⟨by simp, Frm.refl _ _, by rw [part_zero]; exact hx⟩, ?_⟩
  intro g x y hI
  obtain ⟨i, hi, rfl, rfl, hg, hs⟩ := hI.elim
  refine ⟨fun hlt => ?_, fun hge => ?_⟩
  · have hlt := lt_of_dec hlt
    obtain ⟨b, o, row, rfl, hb, r, hl, hset⟩ := hs.setInt hF (i := i) (by rw [part_length hlen]; omega)
    refine ⟨b, o, rfl, by omega, by omega, _, row, r, hl, ?_⟩
    rintro h8 rfl
    refine UpK.next hx.2.1.2 hlt ⟨?_, hg.trans (Frm.put _ _ _ hb), ?_⟩
    · rw [wrap64_of (by omega) (by omega)]; omega
    · have h3 := hset (k + i) ⟨by omega, by omega⟩
      have h4 := part_set hlen (i := i) (by omega)
      rw [mkI_get xs k i (by omega)] at h4
      rw [h4] at h3
      exact h3
  · have hge := ge_of_dec hge
    have hin : i = n := by omega
    subst hin
    rw [part_all hlen (by omega)] at hs
    exact ⟨rfl, hs, hg⟩

theorem heldIntS_ok {xs : List Int} {a : Option Addr} {n c : Nat} {F : List Nat} {k : Int} (hx : Sl kI h (mkI k xs) a n c F) (hk : 0 ≤ k) (hm : k + n < 4611686018427387904) :
    CallsH PP fn_laws_heldIntS [.slice a n c, .int .i64 k] h fun v h' => v = .int .i64 (k + n) ∧ h' = h := by
  refine calls_laws_heldIntS _ _ _ _ ?_
  unfold M_laws_heldIntS
  have hn := hx.1
  have hlen : (mkI k xs).length = xs.length := mkI_length _ _
  refine ⟨UpK n fun i x g => x = k + i ∧ g = h, UpKM n, UpK.start ⟨by simp, rfl⟩, ?_⟩
  intro g x y hI
  obtain ⟨i, hi, rfl, rfl, rfl⟩ := hI.elim
  refine ⟨fun hlt => ?_, fun hge => ?_⟩
  · have hlt := lt_of_dec hlt
    obtain ⟨b, o, rfl, hcell, hr⟩ := hx.intAt (i := i) (by omega)
    refine ⟨b, o, rfl, by omega, by omega, _, hcell, ?_, ?_⟩
    · intro hne
      rw [mkI_get] at hne
      simp at hne
    · intro _
      refine UpK.next hx.2.1.2 hlt ⟨?_, rfl⟩
      rw [wrap64_of (by omega) (by omega)]; omega
  · have hge := ge_of_dec hge
    have hin : i = n := by omega
    subst hin
    exact ⟨rfl, rfl⟩

theorem tmod3 {k : Int} : (Int.tmod k 3 == 0) = (Int.tmod k 3 == 0) := rfl

theorem markBoolS_ok {xs : List Bool} {a : Option Addr} {n c : Nat} {F : List Nat} {k : Int} (hx : Sl kB h xs a n c F) (hF : F.Nodup) (hk : 0 ≤ k) (hm : k + n < 4611686018427387904) :
    CallsH PP fn_laws_markBoolS [.slice a n c, .int .i64 k] h fun v h' => v = .int .i64 (k + n) ∧ Sl kB h' (mkB k xs) a n c F ∧ Frm F h h' := by
  refine calls_laws_markBoolS _ _ _ _ ?_
  unfold M_laws_markBoolS
  have hn := hx.1
  have hlen : (mkB k xs).length = xs.length := mkB_length _ _
  refine ⟨UpK n fun i x g => x = k + i ∧ Frm F h g ∧ Sl kB g (part (mkB k xs) xs i) a n c F, UpKM n, UpK.start ⟨by simp, Frm.refl _ _, by rw [part_zero]; exact hx⟩, ?_⟩
  intro g x y hI
  obtain ⟨i, hi, rfl, rfl, hg, hs⟩ := hI.elim
  refine ⟨fun hlt => ?_, fun hge => ?_⟩
  · have hlt := lt_of_dec hlt
    obtain ⟨b, o, row, rfl, hb, r, hl, hset⟩ := hs.setBool hF (i := i) (by rw [part_length hlen]; omega)
    refine ⟨by decide, b, o, rfl, by omega, by omega, _, row, r, hl, ?_⟩
    rintro h8 rfl
    refine UpK.next hx.2.1.2 hlt ⟨?_, hg.trans (Frm.put _ _ _ hb), ?_⟩
    · rw [wrap64_of (by omega) (by omega)]; omega
    · have h3 := hset (Int.tmod (k + i) 3 == 0)
      have h4 := part_set hlen (i := i) (by omega)
      rw [mkB_get xs k i (by omega)] at h4
      rw [h4] at h3
      exact h3
  · have hge := ge_of_dec hge
    have hin : i = n := by omega
    subst hin
    rw [part_all hlen (by omega)] at hs
    exact ⟨rfl, hs, hg⟩

theorem heldBoolS_ok {xs : List Bool} {a : Option Addr} {n c : Nat} {F : List Nat} {k : Int} (hx : Sl kB h (mkB k xs) a n c F) (hk : 0 ≤ k) (hm : k + n < 4611686018427387904) :
    CallsH PP fn_laws_heldBoolS [.slice a n c, .int .i64 k] h fun v h' => v = .int .i64 (k + n) ∧ h' = h := by
  refine calls_laws_heldBoolS _ _ _ _ ?_
  unfold M_laws_heldBoolS
  have hn := hx.1
  have hlen : (mkB k xs).length = xs.length := mkB_length _ _
  refine ⟨UpK n fun i x g => x = k + i ∧ g = h, UpKM n, UpK.start ⟨by simp, rfl⟩, ?_⟩
  intro g x y hI
  obtain ⟨i, hi, rfl, rfl, rfl⟩ := hI.elim
  refine ⟨fun hlt => ?_, fun hge => ?_⟩
  · have hlt := lt_of_dec hlt
    obtain ⟨b, o, rfl, hcell⟩ := hx.boolAt (i := i) (by omega)
    refine ⟨b, o, rfl, by omega, by omega, _, hcell, by decide, ?_, ?_⟩
    · intro hne
      rw [mkB_get] at hne
      simp at hne
    · intro _
      refine UpK.next hx.2.1.2 hlt ⟨?_, rfl⟩
      rw [wrap64_of (by omega) (by omega)]; omega
  · have hge := ge_of_dec hge
    have hin : i = n := by omega
    subst hin
    exact ⟨rfl, rfl⟩

theorem markIntSS_ok {xs : List (List Int)} {a : Option Addr} {n c : Nat} {F : List Nat} {k : Int} (hx : Sl kIS h xs a n c F) (hF : F.Nodup) (hk : 0 ≤ k) (hm : k + total xs < 4611686018427387904) :
    CallsH PP fn_laws_markIntSS [.slice a n c, .int .i64 k] h fun v h' => v = .int .i64 (k + total xs) ∧ Sl kIS h' (mkL mkI k xs) a n c F ∧ Frm F h h' := by
  refine calls_laws_markIntSS _ _ _ _ ?_
  unfold M_laws_markIntSS
  have hn := hx.1
  have hlen : (mkL mkI k xs).length = xs.length := mkL_length _ _ _
  refine ⟨UpK n fun i x g => x = k + total (xs.take i) ∧ Frm F h g ∧ Sl kIS g (part (mkL mkI k xs) xs i) a n c F, UpKM n, UpK.start ⟨by simp [total], Frm.refl _ _, by rw [part_zero]; exact hx⟩, ?_⟩
  intro g x y hI
  obtain ⟨i, hi, rfl, rfl, hg, hs⟩ := hI.elim
  refine ⟨fun hlt => ?_, fun hge => ?_⟩
  · have hlt := lt_of_dec hlt
    have hi' : i < xs.length := by omega
    obtain ⟨b, o, ai, ni, ci, Fi, rfl, hcell, si, hFi, hsub, hset⟩ := hs.inner hF (i := i) (by rw [part_length hlen]; omega)
    refine ⟨b, o, rfl, by omega, by omega, _, _, _, hcell, ?_⟩
    rw [part_get hlen hi'] at si
    have ht := total_take xs i hi'
    have hle := total_le xs (i + 1)
    have hni := si.1
    refine (markIntS_ok si hFi (by omega) (by omega)).mono ?_
    rintro v h' ⟨rfl, s', f'⟩
    refine ⟨_, rfl, ?_⟩
    refine UpK.next hx.2.1.2 hlt ⟨by omega, hg.trans (f'.mono fun x _ hx => hsub x hx), ?_⟩
    have h3 := hset h' _ f' s'
    have h4 := part_set hlen (i := i) hi'
    rw [mkL_get mkI xs k i (by omega) hi'] at h4
    rw [h4] at h3
    exact h3
  · have hge := ge_of_dec hge
    have hin : i = n := by omega
    subst hin
    rw [part_all hlen (by omega)] at hs
    rw [List.take_of_length_le (by omega)]
    exact ⟨rfl, hs, hg⟩

theorem markBoolSS_ok {xs : List (List Bool)} {a : Option Addr} {n c : Nat} {F : List Nat} {k : Int} (hx : Sl kBS h xs a n c F) (hF : F.Nodup) (hk : 0 ≤ k) (hm : k + total xs < 4611686018427387904) :
    CallsH PP fn_laws_markBoolSS [.slice a n c, .int .i64 k] h fun v h' => v = .int .i64 (k + total xs) ∧ Sl kBS h' (mkL mkB k xs) a n c F ∧ Frm F h h' := by
  refine calls_laws_markBoolSS _ _ _ _ ?_
  unfold M_laws_markBoolSS
  have hn := hx.1
  have hlen : (mkL mkB k xs).length = xs.length := mkL_length _ _ _
  refine ⟨UpK n fun i x g => x = k + total (xs.take i) ∧ Frm F h g ∧ Sl kBS g (part (mkL mkB k xs) xs i) a n c F, UpKM n, UpK.start ⟨by simp [total], Frm.refl _ _, by rw [part_zero]; exact hx⟩, ?_⟩
  intro g x y hI
  obtain ⟨i, hi, rfl, rfl, hg, hs⟩ := hI.elim
  refine ⟨fun hlt => ?_, fun hge => ?_⟩
  · have hlt := lt_of_dec hlt
    have hi' : i < xs.length := by omega
    obtain ⟨b, o, ai, ni, ci, Fi, rfl, hcell, si, hFi, hsub, hset⟩ := hs.inner hF (i := i) (by rw [part_length hlen]; omega)
    refine ⟨b, o, rfl, by omega, by omega, _, _, _, hcell, ?_⟩
    rw [part_get hlen hi'] at si
    have ht := total_take xs i hi'
    have hle := total_le xs (i + 1)
    have hni := si.1
    refine (markBoolS_ok si hFi (by omega) (by omega)).mono ?_
    rintro v h' ⟨rfl, s', f'⟩
    refine ⟨_, rfl, ?_⟩
    refine UpK.next hx.2.1.2 hlt ⟨by omega, hg.trans (f'.mono fun x _ hx => hsub x hx), ?_⟩
    have h3 := hset h' _ f' s'
    have h4 := part_set hlen (i := i) hi'
    rw [mkL_get mkB xs k i (by omega) hi'] at h4
    rw [h4] at h3
    exact h3
  · have hge := ge_of_dec hge
    have hin : i = n := by omega
    subst hin
    rw [part_all hlen (by omega)] at hs
    rw [List.take_of_length_le (by omega)]
    exact ⟨rfl, hs, hg⟩

theorem heldIntSS_ok {xs : List (List Int)} {a : Option Addr} {n c : Nat} {F : List Nat} {k : Int} (hx : Sl kIS h (mkL mkI k xs) a n c F) (hk : 0 ≤ k) (hm : k + total xs < 4611686018427387904) :
    CallsH PP fn_laws_heldIntSS [.slice a n c, .int .i64 k] h fun v h' => v = .int .i64 (k + total xs) ∧ h' = h := by
  refine calls_laws_heldIntSS _ _ _ _ ?_
  unfold M_laws_heldIntSS
  have hn := hx.1
  have hlen : (mkL mkI k xs).length = xs.length := mkL_length _ _ _
  refine ⟨UpK n fun i x g => x = k + total (xs.take i) ∧ g = h, UpKM n, UpK.start ⟨by simp [total], rfl⟩, ?_⟩
  intro g x y hI
  obtain ⟨i, hi, rfl, rfl, rfl⟩ := hI.elim
  refine ⟨fun hlt => ?_, fun hge => ?_⟩
  · have hlt := lt_of_dec hlt
    have hi' : i < xs.length := by omega
    obtain ⟨b, o, ai, ni, ci, Fi, rfl, hcell, si, _⟩ := hx.slAt (i := i) (by omega)
    refine ⟨b, o, rfl, by omega, by omega, _, _, _, hcell, ?_⟩
    rw [mkL_get mkI xs k i (by omega) hi'] at si
    have ht := total_take xs i hi'
    have hle := total_le xs (i + 1)
    have hni := si.1
    rw [mkI_length] at hni
    refine (heldIntS_ok si (by omega) (by omega)).mono ?_
    rintro v h' ⟨rfl, rfl⟩
    refine ⟨_, rfl, fun h => ?_, fun _ => ?_⟩
    · simp at h; omega
    · exact UpK.next hx.2.1.2 hlt ⟨by omega, rfl⟩
  · have hge := ge_of_dec hge
    rw [List.take_of_length_le (by omega)]
    exact ⟨rfl, rfl⟩

theorem heldBoolSS_ok {xs : List (List Bool)} {a : Option Addr} {n c : Nat} {F : List Nat} {k : Int} (hx : Sl kBS h (mkL mkB k xs) a n c F) (hk : 0 ≤ k) (hm : k + total xs < 4611686018427387904) :
    CallsH PP fn_laws_heldBoolSS [.slice a n c, .int .i64 k] h fun v h' => v = .int .i64 (k + total xs) ∧ h' = h := by
  refine calls_laws_heldBoolSS _ _ _ _ ?_
  unfold M_laws_heldBoolSS
  have hn := hx.1
  have hlen : (mkL mkB k xs).length = xs.length := mkL_length _ _ _
  refine ⟨UpK n fun i x g => x = k + total (xs.take i) ∧ g = h, UpKM n, UpK.start ⟨by simp [total], rfl⟩, ?_⟩
  intro g x y hI
  obtain ⟨i, hi, rfl, rfl, rfl⟩ := hI.elim
  refine ⟨fun hlt => ?_, fun hge => ?_⟩
  · have hlt := lt_of_dec hlt
    have hi' : i < xs.length := by omega
    obtain ⟨b, o, ai, ni, ci, Fi, rfl, hcell, si, _⟩ := hx.slAt (i := i) (by omega)
    refine ⟨b, o, rfl, by omega, by omega, _, _, _, hcell, ?_⟩
    rw [mkL_get mkB xs k i (by omega) hi'] at si
    have ht := total_take xs i hi'
    have hle := total_le xs (i + 1)
    have hni := si.1
    rw [mkB_length] at hni
    refine (heldBoolS_ok si (by omega) (by omega)).mono ?_
    rintro v h' ⟨rfl, rfl⟩
    refine ⟨_, rfl, fun h => ?_, fun _ => ?_⟩
    · simp at h; omega
    · exact UpK.next hx.2.1.2 hlt ⟨by omega, rfl⟩
  · have hge := ge_of_dec hge
    rw [List.take_of_length_le (by omega)]
    exact ⟨rfl, rfl⟩

theorem eqBoolSS_ok {xs ys : List (List Bool)} {a a' : Option Addr} {n n' c c' : Nat} {F G : List Nat} (hx : Sl kBS h xs a n c F) (hy : Sl kBS h ys a' n' c' G) :
    CallsH PP fn_laws_eqBoolSS [.slice a n c, .slice a' n' c'] h fun v h' => v = .bool (decide (xs = ys)) ∧ h' = h := by
  refine calls_laws_eqBoolSS _ _ _ _ _ _ ?_
  unfold M_laws_eqBoolSS
  have hn := hx.1
  have hn' := hy.1
  refine ⟨fun hne => ?_, fun heq => ?_⟩
  · refine ⟨?_, rfl⟩
    have : xs ≠ ys := by rintro rfl; simp at hne; omega
    simp [this]
  · have heq : n = n' := by have h1 : (n : Int) = n' := by simpa using heq
                            omega
    refine ⟨UpI n fun i g => g = h ∧ xs.take i = ys.take i, UpM n, UpI.start ⟨rfl, rfl⟩, ?_⟩
    intro g x hI
    obtain ⟨i, hi, rfl, rfl, hpre⟩ := hI.elim
    refine ⟨fun hlt => ?_, fun hge => ?_⟩
    · have hlt := lt_of_dec hlt
      obtain ⟨b, o, ai, ni, ci, Fi, rfl, hcell, si, _⟩ := hx.slAt (i := i) (by omega)
      obtain ⟨b', o', ai', ni', ci', Fi', rfl, hcell', si', _⟩ := hy.slAt (i := i) (by omega)
      refine ⟨b, o, rfl, by omega, by omega, _, _, _, hcell, b', o', rfl, by omega, by omega, _, _, _, hcell', ?_⟩
      refine (eqBoolS_ok si si').mono ?_
      rintro v h' ⟨rfl, rfl⟩
      refine ⟨_, rfl, fun hne => ?_, fun he => ?_⟩
      · refine ⟨?_, rfl⟩
        have : xs ≠ ys := by rintro rfl; simp at hne
        simp [this]
      · have he : xs[i] = ys[i] := by simpa using he
        refine UpI.next hx.2.1.2 hlt ⟨rfl, ?_⟩
        rw [List.take_succ_eq_append_getElem (by omega), List.take_succ_eq_append_getElem (by omega), hpre, he]
    · have hge := ge_of_dec hge
      refine ⟨?_, rfl⟩
      rw [List.take_of_length_le (by omega), List.take_of_length_le (by omega)] at hpre
      simp [hpre]
end
end Go.Proofs.Ytjmhahjmbmiepaa.D
