/- Contracts: copies, comparisons, marks of lists of numbers and bools. -/
import Derived.Test.YtjamacjoohelmaaRepC
import Derived.Test.YtjamacjoohelmaaMl
namespace Go.Proofs.Ytjamacjoohelmaa.D
open Go
set_option linter.unusedVariables false

abbrev kI : Kind Int := kInt ty_int
abbrev kB : Kind Bool := kBool ty_bool
abbrev kIS : Kind (List Int) := kSl ty_S_int kI
abbrev kBS : Kind (List Bool) := kSl ty_S_bool kB

theorem Sl.intAt {h : Heap} {xs : List Int} {a : Option Addr} {n c : Nat} {F : List Nat} {t : TypeId} (s : Sl (kInt t) h xs a n c F) {i : Nat} (hi : i < xs.length) :
    ∃ b o, a = some ⟨b, o, none⟩ ∧ cellAt h b (o + i) = some (.int .i64 xs[i]) ∧ inI64 xs[i] := by
  obtain ⟨b, o, ci, Fi, ha, _, ⟨rfl, _, hr⟩, _, hc⟩ := s.at hi
  exact ⟨b, o, ha, by simpa [kInt] using hc 0 _ rfl, hr⟩
theorem Sl.boolAt {h : Heap} {xs : List Bool} {a : Option Addr} {n c : Nat} {F : List Nat} {t : TypeId} (s : Sl (kBool t) h xs a n c F) {i : Nat} (hi : i < xs.length) :
    ∃ b o, a = some ⟨b, o, none⟩ ∧ cellAt h b (o + i) = some (.bool xs[i]) := by
  obtain ⟨b, o, ci, Fi, ha, _, ⟨rfl, _⟩, _, hc⟩ := s.at hi
  exact ⟨b, o, ha, by simpa [kBool] using hc 0 _ rfl⟩
theorem Sl.slAt {α : Type} {k : Kind α} {h : Heap} {xs : List (List α)} {a : Option Addr} {n c : Nat} {F : List Nat} {t : TypeId} (s : Sl (kSl t k) h xs a n c F) {i : Nat} (hi : i < xs.length) :
    ∃ b o ai ni ci Fi, a = some ⟨b, o, none⟩ ∧ cellAt h b (o + i) = some (.slice ai ni ci) ∧ Sl k h xs[i] ai ni ci Fi ∧ ∀ x ∈ Fi, x ∈ F := by
  obtain ⟨b, o, ci, Fi, ha, _, ⟨ai, ni, cpi, rfl, si⟩, hF, hc⟩ := s.at hi
  exact ⟨b, o, ai, ni, cpi, Fi, ha, by simpa [kSl] using hc 0 _ rfl, si, hF⟩

theorem Sl.setInt {h : Heap} {xs : List Int} {a : Option Addr} {n c : Nat} {F : List Nat} {t : TypeId} (s : Sl (kInt t) h xs a n c F) (hF : F.Nodup) {i : Nat} (hi : i < xs.length) :
    ∃ b o row, a = some ⟨b, o, none⟩ ∧ b ∈ F ∧ Row h b t row ∧ o + i < row.length ∧ ∀ y, inI64 y → Sl (kInt t) (putRow h b t (row.set (o + i) (.int .i64 y))) (xs.set i y) a n c F := by
  obtain ⟨b, o, row, ci, Fi, ha, hb, r, hl, ⟨rfl, rfl, _⟩, _, _, hs⟩ := s.setCell hF hi (j := 0) (by simp [kInt])
  refine ⟨b, o, row, ha, hb, r, by simpa [kInt] using hl, fun y hy => ?_⟩
  have := hs (.int .i64 y) y ⟨rfl, rfl, hy⟩
  simpa [kInt] using this
theorem Sl.setBool {h : Heap} {xs : List Bool} {a : Option Addr} {n c : Nat} {F : List Nat} {t : TypeId} (s : Sl (kBool t) h xs a n c F) (hF : F.Nodup) {i : Nat} (hi : i < xs.length) :
    ∃ b o row, a = some ⟨b, o, none⟩ ∧ b ∈ F ∧ Row h b t row ∧ o + i < row.length ∧ ∀ y, Sl (kBool t) (putRow h b t (row.set (o + i) (.bool y))) (xs.set i y) a n c F := by
  obtain ⟨b, o, row, ci, Fi, ha, hb, r, hl, ⟨rfl, rfl⟩, _, _, hs⟩ := s.setCell hF hi (j := 0) (by simp [kBool])
  refine ⟨b, o, row, ha, hb, r, by simpa [kBool] using hl, fun y => ?_⟩
  have := hs (.bool y) y ⟨rfl, rfl⟩
  simpa [kBool] using this

/-- Numbers that a call only reads. -/
structure RdI (h : Heap) (xs : List Int) (a : Option Addr) (n : Nat) : Prop where
  len : n = xs.length
  lt : n < 9223372036854775808
  at_ : ∀ {i : Nat} (hi : i < xs.length), ∃ b o, a = some ⟨b, o, none⟩ ∧ cellAt h b (o + i) = some (.int .i64 xs[i]) ∧ inI64 xs[i]
theorem RdI.ext {h h' : Heap} {xs : List Int} {a : Option Addr} {n : Nat} (r : RdI h xs a n) (f : Ext h h') : RdI h' xs a n :=
  ⟨r.len, r.lt, fun hi => by
    obtain ⟨b, o, ha, hc, hr⟩ := r.at_ hi
    exact ⟨b, o, ha, cell_frm f hc (by simp), hr⟩⟩
theorem Sl.rd {h : Heap} {xs : List Int} {a : Option Addr} {n c : Nat} {F : List Nat} {t : TypeId} (s : Sl (kInt t) h xs a n c F) : RdI h xs a n := ⟨s.1, by have := s.2.1.2; omega, fun hi => s.intAt hi⟩

section
variable {h : Heap}

theorem eqIntS_ok {xs ys : List Int} {a a' : Option Addr} {n n' c c' : Nat} {F G : List Nat} (hx : Sl kI h xs a n c F) (hy : Sl kI h ys a' n' c' G) :
    CallsH PP fn_laws_eqIntS [.slice a n c, .slice a' n' c'] h fun v h' => v = .bool (decide (xs = ys)) ∧ h' = h := by
  refine calls_laws_eqIntS _ _ _ _ _ _ ?_
  unfold M_laws_eqIntS
  have hn := hx.1
  have hn' := hy.1
  refine ⟨fun hne => ?_, fun heq => ?_⟩
  · refine ⟨?_, rfl⟩
    have : xs ≠ ys := by rintro rfl; simp at hne; omega
    simp [this]
  · have heq : n = n' := by have h1 : (n : Int) = n' := by simpa using heq
                            omega
    refine ⟨UpI n fun i g => g = h ∧ xs.take i = ys.take i, UpM n, UpI.start ⟨rfl, rfl⟩, ?_⟩
    intro g x hI
    obtain ⟨i, hi, rfl, rfl, hpre⟩ := hI.elim
    refine ⟨fun hlt => ?_, fun hge => ?_⟩
    · have hlt := lt_of_dec hlt
      obtain ⟨b, o, rfl, hcell, _⟩ := hx.intAt (i := i) (by omega)
      obtain ⟨b', o', rfl, hcell', _⟩ := hy.intAt (i := i) (by omega)
      refine ⟨b, o, rfl, by omega, by omega, _, hcell, b', o', rfl, by omega, by omega, _, hcell', ?_, ?_⟩
      · intro hne
        refine ⟨?_, rfl⟩
        have : xs ≠ ys := by rintro rfl; simp at hne
        simp [this]
      · intro he
        have he : xs[i] = ys[i] := by simpa using he
        refine UpI.next hx.2.1.2 hlt ⟨rfl, ?_⟩
        rw [List.take_succ_eq_append_getElem (by omega), List.take_succ_eq_append_getElem (by omega), hpre, he]
    · have hge := ge_of_dec hge
      refine ⟨?_, rfl⟩
      rw [List.take_of_length_le (by omega), List.take_of_length_le (by omega)] at hpre
      simp [hpre]

theorem eqBoolS_ok {xs ys : List Bool} {a a' : Option Addr} {n n' c c' : Nat} {F G : List Nat} (hx : Sl kB h xs a n c F) (hy : Sl kB h ys a' n' c' G) :
    CallsH PP fn_laws_eqBoolS [.slice a n c, .slice a' n' c'] h fun v h' => v = .bool (decide (xs = ys)) ∧ h' = h := by
  refine calls_laws_eqBoolS _ _ _ _ _ _ ?_
  unfold M_laws_eqBoolS
  have hn := hx.1
  have hn' := hy.1
  refine ⟨fun hne => ?_, fun heq => ?_⟩
  · refine ⟨?_, rfl⟩
    have : xs ≠ ys := by rintro rfl; simp at hne; omega
    simp [this]
  · have heq : n = n' := by have h1 : (n : Int) = n' := by simpa using heq
                            omega
    refine ⟨UpI n fun i g => g = h ∧ xs.take i = ys.take i, UpM n, UpI.start ⟨rfl, rfl⟩, ?_⟩
    intro g x hI
    obtain ⟨i, hi, rfl, rfl, hpre⟩ := hI.elim
    refine ⟨fun hlt => ?_, fun hge => ?_⟩
    · have hlt := lt_of_dec hlt
      obtain ⟨b, o, rfl, hcell⟩ := hx.boolAt (i := i) (by omega)
      obtain ⟨b', o', rfl, hcell'⟩ := hy.boolAt (i := i) (by omega)
      refine ⟨b, o, rfl, by omega, by omega, _, hcell, b', o', rfl, by omega, by omega, _, hcell', ?_, ?_⟩
      · intro hne
        refine ⟨?_, rfl⟩
        have : xs ≠ ys := by rintro rfl; simp at hne
        simp [this]
      · intro he
        have he : xs[i] = ys[i] := by simpa using he
        refine UpI.next hx.2.1.2 hlt ⟨rfl, ?_⟩
        rw [List.take_succ_eq_append_getElem (by omega), List.take_succ_eq_append_getElem (by omega), hpre, he]
    · have hge := ge_of_dec hge
      refine ⟨?_, rfl⟩
      rw [List.take_of_length_le (by omega), List.take_of_length_le (by omega)] at hpre
      simp [hpre]

theorem eqIntSS_ok {xs ys : List (List Int)} {a a' : Option Addr} {n n' c c' : Nat} {F G : List Nat} (hx : Sl kIS h xs a n c F) (hy : Sl kIS h ys a' n' c' G) :
    CallsH PP fn_laws_eqIntSS [.slice a n c, .slice a' n' c'] h fun v h' => v = .bool (decide (xs = ys)) ∧ h' = h := by
  refine calls_laws_eqIntSS _ _ _ _ _ _ ?_
  unfold M_laws_eqIntSS
  have hn := hx.1
  have hn' := hy.1
  refine ⟨fun hne => ?_, fun heq => ?_⟩
  · refine ⟨?_, rfl⟩
    have : xs ≠ ys := by rintro rfl; simp at hne; omega
    simp [this]
  · have heq : n = n' := by have h1 : (n : Int) = n' := by simpa using heq
                            omega
    refine ⟨UpI n fun i g => g = h ∧ xs.take i = ys.take i, UpM n, UpI.start ⟨rfl, rfl⟩, ?_⟩
    intro g x hI
    obtain ⟨i, hi, rfl, rfl, hpre⟩ := hI.elim
    refine ⟨fun hlt => ?_, fun hge => ?_⟩
    · have hlt := lt_of_dec hlt
      obtain ⟨b, o, ai, ni, ci, Fi, rfl, hcell, si, _⟩ := hx.slAt (i := i) (by omega)
      obtain ⟨b', o', ai', ni', ci', Fi', rfl, hcell', si', _⟩ := hy.slAt (i := i) (by omega)
      refine ⟨b, o, rfl, by omega, by omega, _, _, _, hcell, b', o', rfl, by omega, by omega, _, _, _, hcell', ?_⟩
      refine (eqIntS_ok si si').mono ?_
      rintro v h' ⟨rfl, rfl⟩
      refine ⟨_, rfl, fun hne => ?_, fun he => ?_⟩
      · refine ⟨?_, rfl⟩
        have : xs ≠ ys := by rintro rfl; simp at hne
        simp [this]
      · have he : xs[i] = ys[i] := by simpa using he
        refine UpI.next hx.2.1.2 hlt ⟨rfl, ?_⟩
        rw [List.take_succ_eq_append_getElem (by omega), List.take_succ_eq_append_getElem (by omega), hpre, he]
    · have hge := ge_of_dec hge
      refine ⟨?_, rfl⟩
      rw [List.take_of_length_le (by omega), List.take_of_length_le (by omega)] at hpre
      simp [hpre]

theorem toIntS_ok {xs : List Int} {a : Option Addr} {n c : Nat} (hx : RdI h xs a n) (hmax : n ≤ 1099511627776) :
    CallsH PP fn_laws_toIntS [.slice a n c] h fun v h' => ∃ a' F', v = .slice a' n n ∧ Sl kI h' xs a' n n F' ∧ Fresh h F' ∧ Ext h h' := by
  refine calls_laws_toIntS _ _ _ ?_
  unfold M_laws_toIntS
  have hn := hx.len
  refine ⟨by omega, by omega, by omega, by omega, ?_⟩
  intro h2 e2
  have zero : Sl kI h2 (List.replicate n (0 : Int)) (some ⟨h.size, 0, none⟩) n n [h.size] := by
    have e : Els kI h (List.replicate n (0 : Int)) (List.replicate n (.int .i64 0)) [] := by
      clear hx hmax e2 hn
      induction n with
      | zero => exact ⟨rfl, rfl⟩
      | succ n ih => exact ⟨[.int .i64 0], List.replicate n (.int .i64 0), [], [], rfl, rfl, ⟨rfl, rfl, by unfold inI64; omega⟩, ih⟩
    have := Sl.made kI h (c := n) (post := []) e (by simp) (by simp) (by simp; omega)
    simp only [List.length_replicate, List.append_nil] at this
    rw [e2]
    exact this
  have f2 : Ext h h2 := by rw [e2]; exact Frm.new _ _ _ _
  refine ⟨UpI n fun i g => Ext h g ∧ Sl kI g (part xs (List.replicate n (0 : Int)) i) (some ⟨h.size, 0, none⟩) n n [h.size], UpM n, UpI.start ⟨f2, by rw [part_zero]; exact zero⟩, ?_⟩
  intro g x hI
  obtain ⟨i, hi, rfl, hg, hs⟩ := hI.elim
  have hlen : xs.length = (List.replicate n (0 : Int)).length := by simp [hn]
  refine ⟨fun hlt => ?_, fun hge => ?_⟩
  · have hlt := lt_of_dec hlt
    obtain ⟨b, o, rfl, hcell, hr⟩ := (hx.ext hg).at_ (i := i) (by omega)
    refine ⟨b, o, rfl, by omega, by omega, _, hcell, by omega, by omega, ?_⟩
    obtain ⟨b', o', row, hb, _, r, hl, hset⟩ := hs.setInt (List.nodup_cons.2 ⟨by simp, List.nodup_nil⟩) (i := i) (by rw [part_length hlen]; simp; omega)
    simp at hb
    obtain ⟨rfl, rfl⟩ := hb
    refine ⟨_, row, r, hl, ?_⟩
    rintro h8 rfl
    refine UpI.next (by omega) hlt ⟨hg.putNew _ _ (Nat.le_refl _), ?_⟩
    have := hset _ hr
    rw [part_set hlen (by simp; omega)] at this
    exact this
  · have hge := ge_of_dec hge
    refine ⟨_, [h.size], rfl, ?_, ⟨List.nodup_cons.2 ⟨by simp, List.nodup_nil⟩, fun x hx => by simp at hx; omega⟩, hg⟩
    rw [part_all hlen (by simp; omega)] at hs
    exact hs

theorem markIntS_ok {xs : List Int} {a : Option Addr} {n c : Nat} {F : List Nat} {k : Int} (hx : Sl kI h xs a n c F) (hF : F.Nodup) (hk : 0 ≤ k) (hm : k + n < 4611686018427387904) :
    CallsH PP fn_laws_markIntS [.slice a n c, .int .i64 k] h fun v h' => v = .int .i64 (k + n) ∧ Sl kI h' (mkI k xs) a n c F ∧ Frm F h h' := by
  refine calls_laws_markIntS _ _ _ _ ?_
  unfold M_laws_markIntS
  have hn := hx.1
  have hlen : (mkI k xs).length = xs.length := mkI_length _ _
  refine ⟨UpK n fun i x g => x = k + i ∧ Frm F h g ∧ Sl kI g (part (mkI k xs) xs i) a n c F, UpKM n, UpK.start ⟨by simp, Frm.refl _ _, by rw [part_zero]; exact hx⟩, ?_⟩
  intro g x y hI
  obtain ⟨i, hi, rfl, rfl, hg, hs⟩ := hI.elim
  refine ⟨fun hlt => ?_, fun hge => ?_⟩
  · have hlt := lt_of_dec hlt
    obtain ⟨b, o, row, rfl, hb, r, hl, hset⟩ := hs.setInt hF (i := i) (by rw [part_length hlen]; omega)
    refine ⟨b, o, rfl, by omega, by omega, _, row, r, hl, ?_⟩
    rintro h8 rfl
    refine UpK.next hx.2.1.2 hlt ⟨?_, hg.trans (Frm.put _ _ _ hb), ?_⟩
    · rw [wrap64_of (by omega) (by omega)]; omega
    · have h3 := hset (k + i) ⟨by omega, by omega⟩
      have h4 := part_set hlen (i := i) (by omega)
      rw [mkI_get xs k i (by omega)] at h4
      rw [h4] at h3
      exact h3
  · have hge := ge_of_dec hge
    have hin : i = n := by omega
    subst hin
    rw [part_all hlen (by omega)] at hs
    exact ⟨rfl, hs, hg⟩

theorem heldIntS_ok {xs : List Int} {a : Option Addr} {n c : Nat} {F : List Nat} {k : Int} (hx : Sl kI h (mkI k xs) a n c F) (hk : 0 ≤ k) (hm : k + n < 4611686018427387904) :
    CallsH PP fn_laws_heldIntS [.slice a n c, .int .i64 k] h fun v h' => v = .int .i64 (k + n) ∧ h' = h := by
  refine calls_laws_heldIntS _ _ _ _ ?_
  unfold M_laws_heldIntS
  have hn := hx.1
  have hlen : (mkI k xs).length = xs.length := mkI_length _ _
  refine ⟨UpK n fun i x g => x = k + i ∧ g = h, UpKM n, UpK.start ⟨by simp, rfl⟩, ?_⟩
  intro g x y hI
  obtain ⟨i, hi, rfl, rfl, rfl⟩ := hI.elim
  refine ⟨fun hlt => ?_, fun hge => ?_⟩
  · have hlt := lt_of_dec hlt
    obtain ⟨b, o, rfl, hcell, hr⟩ := hx.intAt (i := i) (by omega)
    refine ⟨b, o, rfl, by omega, by omega, _, hcell, ?_, ?_⟩
    · intro hne
      rw [mkI_get] at hne
      simp at hne
    · intro _
      refine UpK.next hx.2.1.2 hlt ⟨?_, rfl⟩
      rw [wrap64_of (by omega) (by omega)]; omega
  · have hge := ge_of_dec hge
    have hin : i = n := by omega
    subst hin
    exact ⟨rfl, rfl⟩

theorem tmod3 {k : Int} : (Int.tmod k 3 == 0) = (Int.tmod k 3 == 0) := rfl

theorem markBoolS_ok {xs : List Bool} {a : Option Addr} {n c : Nat} {F : List Nat} {k : Int} (hx : Sl kB h xs a n c F) (hF : F.Nodup) (hk : 0 ≤ k) (hm : k + n < 4611686018427387904) :
    CallsH PP fn_laws_markBoolS [.slice a n c, .int .i64 k] h fun v h' => v = .int .i64 (k + n) ∧ Sl kB h' (mkB k xs) a n c F ∧ Frm F h h' := by
  refine calls_laws_markBoolS _ _ _ _ ?_
  unfold M_laws_markBoolS
  have hn := hx.1
  have hlen : (mkB k xs).length = xs.length := mkB_length _ _
  refine ⟨UpK n fun i x g => x = k + i ∧ Frm F h g ∧ Sl kB g (part (mkB k xs) xs i) a n c F, UpKM n, UpK.start ⟨by simp, Frm.refl _ _, by rw [part_zero]; exact hx⟩, ?_⟩
  intro g x y hI
  obtain ⟨i, hi, rfl, rfl, hg, hs⟩ := hI.elim
  refine ⟨fun hlt => ?_, fun hge => ?_⟩
  · have hlt := lt_of_dec hlt
    obtain ⟨b, o, row, rfl, hb, r, hl, hset⟩ := hs.setBool hF (i := i) (by rw [part_length hlen]; omega)
    refine ⟨by decide, b, o, rfl, by omega, by omega, _, row, r, hl, ?_⟩
    rintro h8 rfl
    refine UpK.next hx.2.1.2 hlt ⟨?_, hg.trans (Frm.put _ _ _ hb), ?_⟩
    · rw [wrap64_of (by omega) (by omega)]; omega
    · have h3 := hset (Int.tmod (k + i) 3 == 0)
      have h4 := part_set hlen (i := i) (by omega)
      rw [mkB_get xs k i (by omega)] at h4
      rw [h4] at h3
      exact h3
  · have hge := ge_of_dec hge
    have hin : i = n := by omega
    subst hin
    rw [part_all hlen (by omega)] at hs
    exact ⟨rfl, hs, hg⟩

theorem heldBoolS_ok {xs : List Bool} {a : Option Addr} {n c : Nat} {F : List Nat} {k : Int} (hx : Sl kB h (mkB k xs) a n c F) (hk : 0 ≤ k) (hm : k + n < 4611686018427387904) :
    CallsH PP fn_laws_heldBoolS [.slice a n c, .int .i64 k] h fun v h' => v = .int .i64 (k + n) ∧ h' = h := by
  refine calls_laws_heldBoolS _ _ _ _ ?_
  unfold M_laws_heldBoolS
  have hn := hx.1
  have hlen : (mkB k xs).length = xs.length := mkB_length _ _
  refine ⟨UpK n fun i x g => x = k + i ∧ g = h, UpKM n, UpK.start ⟨by simp, rfl⟩, ?_⟩
  intro g x y hI
  obtain ⟨i, hi, rfl, rfl, rfl⟩ := hI.elim
  refine ⟨fun hlt => ?_, fun hge => ?_⟩
  · have hlt := lt_of_dec hlt
    obtain ⟨b, o, rfl, hcell⟩ := hx.boolAt (i := i) (by omega)
    refine ⟨b, o, rfl, by omega, by omega, _, hcell, by decide, ?_, ?_⟩
    · intro hne
      rw [mkB_get] at hne
      simp at hne
    · intro _
      refine UpK.next hx.2.1.2 hlt ⟨?_, rfl⟩
      rw [wrap64_of (by omega) (by omega)]; omega
  · have hge := ge_of_dec hge
    have hin : i = n := by omega
    subst hin
    exact ⟨rfl, rfl⟩

/-! ### Rows of rows -/

/-- What a callee turns inside one element. -/
theorem Sl.inner {α : Type} {k : Kind α} {xs : List (List α)} {a : Option Addr} {n c : Nat} {F : List Nat} {t : TypeId} (s : Sl (kSl t k) h xs a n c F) (hF : F.Nodup) {i : Nat} (hi : i < xs.length) :
    ∃ b o ai ni ci Fi, a = some ⟨b, o, none⟩ ∧ cellAt h b (o + i) = some (.slice ai ni ci) ∧ Sl k h xs[i] ai ni ci Fi ∧ Fi.Nodup ∧ (∀ x ∈ Fi, x ∈ F) ∧
      ∀ h1 zs, Frm Fi h h1 → Sl k h1 zs ai ni ci Fi → Sl (kSl t k) h1 (xs.set i zs) a n c F := by
  obtain ⟨hn, hc, hs⟩ := s
  rcases hs with ⟨rfl, rfl, rfl⟩ | ⟨b, pre, cs, post, G, rfl, r, hp, e, rfl⟩
  · omega
  · obtain ⟨c1, ci, c2, F1, Fi, F2, rfl, rfl, hl, e1, ⟨ai, ni, cpi, rfl, si⟩, e3⟩ := e.at hi
    have hl1 : c1.length = i := by rw [hl]; exact Nat.mul_one i
    obtain ⟨hbn, hG⟩ := List.nodup_cons.1 hF
    have hnd := List.nodup_append.1 hG
    have hnd1 := List.nodup_append.1 hnd.1
    refine ⟨b, pre.length, ai, ni, cpi, Fi, rfl, ?_, si, hnd1.2.1, fun x hx => by simp [hx], ?_⟩
    · rw [r.cell]
      have e0 : pre ++ (c1 ++ [Value.slice ai ni cpi] ++ c2) ++ post = (pre ++ c1) ++ ([Value.slice ai ni cpi] ++ (c2 ++ post)) := by simp
      rw [e0, List.getElem?_append_right (by simp; omega)]
      rw [show pre.length + i - (pre ++ c1).length = 0 from by simp; omega]
      rfl
    · intro h1 zs f s'
      have fr : ∀ b' ∈ F1 ++ F2, h1[b']? = h[b']? := by
        intro b' hb'
        have hm : b' ∈ F1 ++ Fi ++ F2 := by rcases List.mem_append.1 hb' with hb' | hb' <;> simp [hb']
        refine f.2 b' (e.lt b' hm) fun hx => ?_
        rcases List.mem_append.1 hb' with hb' | hb'
        · exact hnd1.2.2 b' hb' b' hx rfl
        · exact hnd.2.2 b' (by simp [hx]) b' hb' rfl
      refine ⟨by simpa using hn, hc, .inr ⟨b, pre, c1 ++ [Value.slice ai ni cpi] ++ c2, post, F1 ++ Fi ++ F2, rfl, r.frm f (fun hm => hbn (by simp [hm])), hp, ?_, rfl⟩⟩
      exact els_set hi (e1.frame fun b hb => fr b (by simp [hb])) (s'.rep t) (e3.frame fun b hb => fr b (by simp [hb]))

theorem markIntSS_ok {xs : List (List Int)} {a : Option Addr} {n c : Nat} {F : List Nat} {k : Int} (hx : Sl kIS h xs a n c F) (hF : F.Nodup) (hk : 0 ≤ k) (hm : k + total xs < 4611686018427387904) :
    CallsH PP fn_laws_markIntSS [.slice a n c, .int .i64 k] h fun v h' => v = .int .i64 (k + total xs) ∧ Sl kIS h' (mkL mkI k xs) a n c F ∧ Frm F h h' := by
  refine calls_laws_markIntSS _ _ _ _ ?_
  unfold M_laws_markIntSS
  have hn := hx.1
  have hlen : (mkL mkI k xs).length = xs.length := mkL_length _ _ _
  refine ⟨UpK n fun i x g => x = k + total (xs.take i) ∧ Frm F h g ∧ Sl kIS g (part (mkL mkI k xs) xs i) a n c F, UpKM n, UpK.start ⟨by simp [total], Frm.refl _ _, by rw [part_zero]; exact hx⟩, ?_⟩
  intro g x y hI
  obtain ⟨i, hi, rfl, rfl, hg, hs⟩ := hI.elim
  refine ⟨fun hlt => ?_, fun hge => ?_⟩
  · have hlt := lt_of_dec hlt
    have hi' : i < xs.length := by omega
    obtain ⟨b, o, ai, ni, ci, Fi, rfl, hcell, si, hFi, hsub, hset⟩ := hs.inner hF (i := i) (by rw [part_length hlen]; omega)
    refine ⟨b, o, rfl, by omega, by omega, _, _, _, hcell, ?_⟩
    rw [part_get hlen hi'] at si
    have ht := total_take xs i hi'
    have hle := total_le xs (i + 1)
    have hni := si.1
    refine (markIntS_ok si hFi (by omega) (by omega)).mono ?_
    rintro v h' ⟨rfl, s', f'⟩
    refine ⟨_, rfl, ?_⟩
    refine UpK.next hx.2.1.2 hlt ⟨by omega, hg.trans (f'.mono fun x _ hx => hsub x hx), ?_⟩
    have h3 := hset h' _ f' s'
    have h4 := part_set hlen (i := i) hi'
    rw [mkL_get mkI xs k i (by omega) hi'] at h4
    rw [h4] at h3
    exact h3
  · have hge := ge_of_dec hge
    have hin : i = n := by omega
    subst hin
    rw [part_all hlen (by omega)] at hs
    rw [List.take_of_length_le (by omega)]
    exact ⟨rfl, hs, hg⟩

theorem markBoolSS_ok {xs : List (List Bool)} {a : Option Addr} {n c : Nat} {F : List Nat} {k : Int} (hx : Sl kBS h xs a n c F) (hF : F.Nodup) (hk : 0 ≤ k) (hm : k + total xs < 4611686018427387904) :
    CallsH PP fn_laws_markBoolSS [.slice a n c, .int .i64 k] h fun v h' => v = .int .i64 (k + total xs) ∧ Sl kBS h' (mkL mkB k xs) a n c F ∧ Frm F h h' := by
  refine calls_laws_markBoolSS _ _ _ _ ?_
  unfold M_laws_markBoolSS
  have hn := hx.1
  have hlen : (mkL mkB k xs).length = xs.length := mkL_length _ _ _
  refine ⟨UpK n fun i x g => x = k + total (xs.take i) ∧ Frm F h g ∧ Sl kBS g (part (mkL mkB k xs) xs i) a n c F, UpKM n, UpK.start ⟨by simp [total], Frm.refl _ _, by rw [part_zero]; exact hx⟩, ?_⟩
  intro g x y hI
  obtain ⟨i, hi, rfl, rfl, hg, hs⟩ := hI.elim
  refine ⟨fun hlt => ?_, fun hge => ?_⟩
  · have hlt := lt_of_dec hlt
    have hi' : i < xs.length := by omega
    obtain ⟨b, o, ai, ni, ci, Fi, rfl, hcell, si, hFi, hsub, hset⟩ := hs.inner hF (i := i) (by rw [part_length hlen]; omega)
    refine ⟨b, o, rfl, by omega, by omega, _, _, _, hcell, ?_⟩
    rw [part_get hlen hi'] at si
    have ht := total_take xs i hi'
    have hle := total_le xs (i + 1)
    have hni := si.1
    refine (markBoolS_ok si hFi (by omega) (by omega)).mono ?_
    rintro v h' ⟨rfl, s', f'⟩
    refine ⟨_, rfl, ?_⟩
    refine UpK.next hx.2.1.2 hlt ⟨by omega, hg.trans (f'.mono fun x _ hx => hsub x hx), ?_⟩
    have h3 := hset h' _ f' s'
    have h4 := part_set hlen (i := i) hi'
    rw [mkL_get mkB xs k i (by omega) hi'] at h4
    rw [h4] at h3
    exact h3
  · have hge := ge_of_dec hge
    have hin : i = n := by omega
    subst hin
    rw [part_all hlen (by omega)] at hs
    rw [List.take_of_length_le (by omega)]
    exact ⟨rfl, hs, hg⟩

theorem heldIntSS_ok {xs : List (List Int)} {a : Option Addr} {n c : Nat} {F : List Nat} {k : Int} (hx : Sl kIS h (mkL mkI k xs) a n c F) (hk : 0 ≤ k) (hm : k + total xs < 4611686018427387904) :
    CallsH PP fn_laws_heldIntSS [.slice a n c, .int .i64 k] h fun v h' => v = .int .i64 (k + total xs) ∧ h' = h := by
  refine calls_laws_heldIntSS _ _ _ _ ?_
  unfold M_laws_heldIntSS
  have hn := hx.1
  have hlen : (mkL mkI k xs).length = xs.length := mkL_length _ _ _
  refine ⟨UpK n fun i x g => x = k + total (xs.take i) ∧ g = h, UpKM n, UpK.start ⟨by simp [total], rfl⟩, ?_⟩
  intro g x y hI
  obtain ⟨i, hi, rfl, rfl, rfl⟩ := hI.elim
  refine ⟨fun hlt => ?_, fun hge => ?_⟩
  · have hlt := lt_of_dec hlt
    have hi' : i < xs.length := by omega
    obtain ⟨b, o, ai, ni, ci, Fi, rfl, hcell, si, _⟩ := hx.slAt (i := i) (by omega)
    refine ⟨b, o, rfl, by omega, by omega, _, _, _, hcell, ?_⟩
    rw [mkL_get mkI xs k i (by omega) hi'] at si
    have ht := total_take xs i hi'
    have hle := total_le xs (i + 1)
    have hni := si.1
    rw [mkI_length] at hni
    refine (heldIntS_ok si (by omega) (by omega)).mono ?_
    rintro v h' ⟨rfl, rfl⟩
    refine ⟨_, rfl, fun h => ?_, fun _ => ?_⟩
    · simp at h; omega
    · exact UpK.next hx.2.1.2 hlt ⟨by omega, rfl⟩
  · have hge := ge_of_dec hge
    rw [List.take_of_length_le (by omega)]
    exact ⟨rfl, rfl⟩

theorem heldBoolSS_ok {xs : List (List Bool)} {a : Option Addr} {n c : Nat} {F : List Nat} {k : Int} (hx : Sl kBS h (mkL mkB k xs) a n c F) (hk : 0 ≤ k) (hm : k + total xs < 4611686018427387904) :
    CallsH PP fn_laws_heldBoolSS [.slice a n c, .int .i64 k] h fun v h' => v = .int .i64 (k + total xs) ∧ h' = h := by
  refine calls_laws_heldBoolSS _ _ _ _ ?_
  unfold M_laws_heldBoolSS
  have hn := hx.1
  have hlen : (mkL mkB k xs).length = xs.length := mkL_length _ _ _
  refine ⟨UpK n fun i x g => x = k + total (xs.take i) ∧ g = h, UpKM n, UpK.start ⟨by simp [total], rfl⟩, ?_⟩
  intro g x y hI
  obtain ⟨i, hi, rfl, rfl, rfl⟩ := hI.elim
  refine ⟨fun hlt => ?_, fun hge => ?_⟩
  · have hlt := lt_of_dec hlt
    have hi' : i < xs.length := by omega
    obtain ⟨b, o, ai, ni, ci, Fi, rfl, hcell, si, _⟩ := hx.slAt (i := i) (by omega)
    refine ⟨b, o, rfl, by omega, by omega, _, _, _, hcell, ?_⟩
    rw [mkL_get mkB xs k i (by omega) hi'] at si
    have ht := total_take xs i hi'
    have hle := total_le xs (i + 1)
    have hni := si.1
    rw [mkB_length] at hni
    refine (heldBoolS_ok si (by omega) (by omega)).mono ?_
    rintro v h' ⟨rfl, rfl⟩
    refine ⟨_, rfl, fun h => ?_, fun _ => ?_⟩
    · simp at h; omega
    · exact UpK.next hx.2.1.2 hlt ⟨by omega, rfl⟩
  · have hge := ge_of_dec hge
    rw [List.take_of_length_le (by omega)]
    exact ⟨rfl, rfl⟩

theorem eqBoolSS_ok {xs ys : List (List Bool)} {a a' : Option Addr} {n n' c c' : Nat} {F G : List Nat} (hx : Sl kBS h xs a n c F) (hy : Sl kBS h ys a' n' c' G) :
    CallsH PP fn_laws_eqBoolSS [.slice a n c, .slice a' n' c'] h fun v h' => v = .bool (decide (xs = ys)) ∧ h' = h := by
  refine calls_laws_eqBoolSS _ _ _ _ _ _ ?_
  unfold M_laws_eqBoolSS
  have hn := hx.1
  have hn' := hy.1
  refine ⟨fun hne => ?_, fun heq => ?_⟩
  · refine ⟨?_, rfl⟩
    have : xs ≠ ys := by rintro rfl; simp at hne; omega
    simp [this]
  · have heq : n = n' := by have h1 : (n : Int) = n' := by simpa using heq
                            omega
    refine ⟨UpI n fun i g => g = h ∧ xs.take i = ys.take i, UpM n, UpI.start ⟨rfl, rfl⟩, ?_⟩
    intro g x hI
    obtain ⟨i, hi, rfl, rfl, hpre⟩ := hI.elim
    refine ⟨fun hlt => ?_, fun hge => ?_⟩
    · have hlt := lt_of_dec hlt
      obtain ⟨b, o, ai, ni, ci, Fi, rfl, hcell, si, _⟩ := hx.slAt (i := i) (by omega)
      obtain ⟨b', o', ai', ni', ci', Fi', rfl, hcell', si', _⟩ := hy.slAt (i := i) (by omega)
      refine ⟨b, o, rfl, by omega, by omega, _, _, _, hcell, b', o', rfl, by omega, by omega, _, _, _, hcell', ?_⟩
      refine (eqBoolS_ok si si').mono ?_
      rintro v h' ⟨rfl, rfl⟩
      refine ⟨_, rfl, fun hne => ?_, fun he => ?_⟩
      · refine ⟨?_, rfl⟩
        have : xs ≠ ys := by rintro rfl; simp at hne
        simp [this]
      · have he : xs[i] = ys[i] := by simpa using he
        refine UpI.next hx.2.1.2 hlt ⟨rfl, ?_⟩
        rw [List.take_succ_eq_append_getElem (by omega), List.take_succ_eq_append_getElem (by omega), hpre, he]
    · have hge := ge_of_dec hge
      refine ⟨?_, rfl⟩
      rw [List.take_of_length_le (by omega), List.take_of_length_le (by omega)] at hpre
      simp [hpre]
end
end Go.Proofs.Ytjamacjoohelmaa.D
