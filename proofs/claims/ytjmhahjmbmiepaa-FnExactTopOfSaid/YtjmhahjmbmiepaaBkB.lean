/- Contracts: tests of numbers; a marker on all ways. -/
import Derived.Test.YtjmhahjmbmiepaaBkA
import Derived.Test.YtjmhahjmbmiepaaMb
namespace Go.Proofs.Ytjmhahjmbmiepaa.D
open Go
set_option linter.unusedVariables false
set_option linter.unusedSimpArgs false

section
variable {h : Heap} {L : List Asn}

theorem l1In_ok (x lo hi : Int) : CallsH PP fn_spec_l1In [.int .i64 x, .int .i64 lo, .int .i64 hi] h fun v h' => v = .bool (inR x lo hi) ∧ h' = h := by
  refine calls_spec_l1In _ _ _ ?_
  unfold M_spec_l1In inR
  exact ⟨fun e => ⟨by rw [e]; rfl, rfl⟩, fun e => ⟨by rw [e]; rfl, rfl⟩⟩
theorem within_ok (x lo hi : Int) : CallsH PP fn_impl_within [.int .i64 x, .int .i64 lo, .int .i64 hi] h fun v h' => v = .bool (inR x lo hi) ∧ h' = h := by
  refine calls_impl_within _ _ _ ?_
  unfold M_impl_within inR
  exact ⟨fun e => ⟨by rw [e]; rfl, rfl⟩, fun e => ⟨by rw [e]; rfl, rfl⟩⟩
theorem areCoins_1_ok (x : Int) : CallsH PP fn_impl_areCoins_1 [.int .i64 x] h fun v h' => v = .bool (!inR x 0 50) ∧ h' = h := by
  refine calls_impl_areCoins_1 _ ?_
  unfold M_impl_areCoins_1
  refine (within_ok _ _ _).mono ?_
  rintro v h' ⟨rfl, rfl⟩
  exact ⟨_, rfl, rfl, rfl⟩
theorem callable_areCoins_1 : Callable PP fn_impl_areCoins_1 := ⟨_, Try.func160, by kernel_rfl, by kernel_rfl⟩

theorem IndexFunc_ok {xs : List Int} {a : Option Addr} {n c : Nat} {F : List Nat} (hx : Sl kI h xs a n c F) {g : FuncId} {ks : List Value} (p : Int → Bool) (hc : Callable PP g)
    (hg : ∀ x, CallsH PP g ([.int .i64 x] ++ ks) h fun v h' => v = .bool (p x) ∧ h' = h) :
    CallsH PP fn_slices_IndexFunc_int [.slice a n c, .func (.func g) #[] ⟨ks⟩] h fun v h' => ∃ r : Int, v = .int .i64 r ∧ decide (r ≥ 0) = xs.any p ∧ h' = h := by
  refine calls_slices_IndexFunc_int _ _ _ _ ?_
  unfold M_slices_IndexFunc_int
  have hn := hx.1
  refine ⟨UpI n fun i g => g = h ∧ (xs.take i).any p = false, UpM n, UpI.start ⟨rfl, by simp⟩, ?_⟩
  intro g' x hI
  obtain ⟨i, hi, rfl, rfl, hpre⟩ := hI.elim
  refine ⟨fun hlt => ?_, fun hge => ?_⟩
  · have hlt := lt_of_dec hlt
    obtain ⟨b, o, rfl, hcell, _⟩ := hx.intAt (i := i) (by omega)
    refine ⟨b, o, rfl, by omega, by omega, _, hcell, _, _, rfl, hc, (hg _).mono ?_⟩
    rintro v h' ⟨rfl, rfl⟩
    refine ⟨_, rfl, fun ht => ?_, fun hf => ?_⟩
    · refine ⟨_, rfl, ?_, rfl⟩
      have : xs.any p = true := List.any_eq_true.2 ⟨_, List.getElem_mem (by omega), ht⟩
      rw [this]; simp
    · refine UpI.next hx.2.1.2 hlt ⟨rfl, ?_⟩
      rw [List.take_succ_eq_append_getElem (by omega), List.any_append, hpre]
      simp [hf]
  · have hge := ge_of_dec hge
    rw [List.take_of_length_le (by omega)] at hpre
    exact ⟨_, rfl, by rw [hpre]; rfl, rfl⟩
theorem ContainsFunc_ok {xs : List Int} {a : Option Addr} {n c : Nat} {F : List Nat} (hx : Sl kI h xs a n c F) {g : FuncId} {ks : List Value} (p : Int → Bool) (hc : Callable PP g)
    (hg : ∀ x, CallsH PP g ([.int .i64 x] ++ ks) h fun v h' => v = .bool (p x) ∧ h' = h) :
    CallsH PP fn_slices_ContainsFunc_int [.slice a n c, .func (.func g) #[] ⟨ks⟩] h fun v h' => v = .bool (xs.any p) ∧ h' = h := by
  refine calls_slices_ContainsFunc_int _ _ _ _ ?_
  unfold M_slices_ContainsFunc_int
  refine (IndexFunc_ok hx p hc hg).mono ?_
  rintro v h' ⟨r, rfl, hr, rfl⟩
  exact ⟨_, rfl, by rw [hr], rfl⟩
def coinsOk (xs : List Int) : Bool := inR xs.length 1 5 && xs.all fun x => inR x 0 50
theorem areCoins_ok {xs : List Int} {a : Option Addr} {n c : Nat} {F : List Nat} (hx : Sl kI h xs a n c F) :
    CallsH PP fn_impl_areCoins [.slice a n c] h fun v h' => v = .bool (coinsOk xs) ∧ h' = h := by
  refine calls_impl_areCoins _ _ _ ?_
  unfold M_impl_areCoins coinsOk
  have hn := hx.1
  refine (within_ok _ _ _).mono ?_
  rintro v h' ⟨rfl, rfl⟩
  rw [hn]
  refine ⟨_, rfl, fun ht => ?_, fun hf => ⟨by rw [hf]; rfl, rfl⟩⟩
  rw [← hn]
  refine (ContainsFunc_ok hx (fun x => !inR x 0 50) callable_areCoins_1 fun x => areCoins_1_ok x).mono ?_
  rintro v h' ⟨rfl, rfl⟩
  refine ⟨_, rfl, ?_, rfl⟩
  rw [hn, ht, List.not_any_eq_all_not]
  simp
theorem l1All_ok {xs : List Int} {a : Option Addr} {n c : Nat} {F : List Nat} (hx : Sl kI h xs a n c F) (lo hi : Int) :
    CallsH PP fn_spec_l1All [.slice a n c, .int .i64 lo, .int .i64 hi] h fun v h' => v = .bool (xs.all fun x => inR x lo hi) ∧ h' = h := by
  refine calls_spec_l1All _ _ _ _ _ ?_
  unfold M_spec_l1All
  have hn := hx.1
  refine ⟨UpI n fun i g => g = h ∧ (xs.take i).all (fun x => inR x lo hi) = true, UpM n, UpI.start ⟨rfl, by simp⟩, ?_⟩
  intro g' x hI
  obtain ⟨i, hi', rfl, rfl, hpre⟩ := hI.elim
  refine ⟨fun hlt => ?_, fun hge => ?_⟩
  · have hlt := lt_of_dec hlt
    obtain ⟨b, o, rfl, hcell, _⟩ := hx.intAt (i := i) (by omega)
    refine ⟨b, o, rfl, by omega, by omega, _, hcell, (l1In_ok _ _ _).mono ?_⟩
    rintro v h' ⟨rfl, rfl⟩
    refine ⟨_, rfl, fun ht => ?_, fun hf => ?_⟩
    · refine ⟨?_, rfl⟩
      have : xs.all (fun x => inR x lo hi) = false := List.all_eq_false.2 ⟨xs[i], List.getElem_mem _, by simpa using ht⟩
      rw [this]
    · refine UpI.next hx.2.1.2 hlt ⟨rfl, ?_⟩
      rw [List.take_succ_eq_append_getElem (l := xs) (i := i) (by omega), List.all_append, hpre]
      simpa using hf
  · have hge := ge_of_dec hge
    rw [List.take_of_length_le (show xs.length ≤ i by omega)] at hpre
    exact ⟨by rw [hpre], rfl⟩

/-! ### A marker on all ways of a node -/

abbrev bankL (x : BankD) (d : BankH) (L : List Asn) : List Asn :=
  slA kI x.coins d.d0.a d.d0.n d.d0.c :: slA kIS x.ways d.d1.a d.d1.n d.d1.c :: slA kI x.kept d.d2.a d.d2.n d.d2.c :: slA kBS x.heard d.d3.a d.d3.n d.d3.c :: slA kIS x.found d.d4.a d.d4.n d.d4.c :: L

theorem wrapIdx {n k t : Nat} (h : k * n + t < 4611686018427387904) : IntKind.i64.wrap (IntKind.i64.wrap ((k : Int) * (n : Int)) + (t : Int)) = ((k * n + t : Nat) : Int) := by
  have e : (k : Int) * (n : Int) = ((k * n : Nat) : Int) := by simp
  rw [e, wrap64_of (n := ((k * n : Nat) : Int)) (by omega) (by omega), wrap64_of (by omega) (by omega)]
  simp
theorem mul_le5 {n : Nat} (h : n ≤ 5) : n * n ≤ 25 := Nat.mul_le_mul h h

theorem record_ok {x : BankD} {d : BankH} {b0 n k i : Nat} (w : WfB n i x) (hk : k < n) (hi : i ≤ 1000) (H : Own h (rowA b0 ty_impl_Bank d.cells :: bankL x d L)) :
    CallsH PP fn_impl_Bank_record [.pointer (some ⟨b0, 0, none⟩), .int .i64 k] h fun v h' => v = .tuple ⟨[]⟩ ∧ Own h' (rowA b0 ty_impl_Bank d.cells :: bankL (recordD n x k) d L) := by
  refine calls_impl_Bank_record _ _ _ ?_
  unfold M_impl_Bank_record
  have l0 := H.len m1
  have l1 := H.len m2
  have l2 := H.len m3
  rw [w.coins] at l0
  rw [w.ways] at l1
  rw [w.kept] at l2
  have hn := w.le
  have hnn := mul_le5 hn
  refine ⟨_, _, _, H.cell m0 rfl, _, _, _, H.cell m0 rfl, _, _, _, H.cell m0 rfl, ?_⟩
  obtain ⟨b, o, ha, hc, hr⟩ := H.intAt m1 (i := k) (by rw [w.coins]; exact hk)
  refine ⟨b, o, ha, by omega, by omega, _, hc, ?_⟩
  obtain ⟨b', o', row, ha', r, hl, st⟩ := H.p3.setInt (i := k) (by rw [w.kept]; exact hk)
  refine ⟨b', o', ha', by omega, by omega, _, row, r, hl, ?_⟩
  rintro h9 rfl
  have H := (st _ hr).q3
  rw [getD_get 0] at H ⊢
  rw [l0.1]
  refine ⟨UpI n fun t g => Own g (rowA b0 ty_impl_Bank d.cells :: bankL { x with kept := x.kept.set k (x.coins.getD k 0), ways := recTo n k x.ways t } d L), UpM n, UpI.start H, ?_⟩
  intro g y hI
  obtain ⟨t, ht, rfl, H⟩ := hI.elim
  refine ⟨fun hlt => ?_, fun hge => ?_⟩
  · have hlt := lt_of_dec hlt
    refine ⟨fun hne => ?_, fun he => ?_⟩
    · have hne : t ≠ k := by rintro rfl; simp at hne
      have hix := idx_lt hk hlt
      rw [wrapIdx (by omega)]
      refine ⟨_, _, _, H.cell m0 rfl, _, _, _, H.cell m0 rfl, ?_⟩
      obtain ⟨b1, o1, ai, ni, ci, ha1, hc1, H⟩ := H.p2.inner (i := k * n + t) (by rw [recTo_length, w.ways]; exact hix)
      refine ⟨b1, o1, ha1, by omega, by omega, _, _, _, hc1, ?_⟩
      rintro h16 rfl
      have H := H.new ty_int [.int .i64 0]
      refine ⟨H.innerCell m2, H.cell m3 rfl, H.cell m3 rfl, ?_⟩
      have hlen := (H.len m1).1
      rw [getD_get [], recTo_get w.ways hk t ht, if_neg (by rintro ⟨u, h1, h2, h3⟩; omega)] at hlen
      have hway := w.way (k * n + t)
      refine H.p1.append1 (y := 0) m0 ⟨rfl, rfl, by simp [inI64]⟩ (by omega) rfl fun a' c' h17 H => ?_
      refine ⟨H.cell m3 rfl, b1, o1, ha1, by omega, by omega, ?_⟩
      obtain ⟨row1, r1, hl1, st1⟩ := H.p2.innerPut
      refine ⟨_, row1, r1, hl1, ?_⟩
      rintro h20 rfl
      have H := (st1 a' (ni + 1) c').p1.closeSl.p1.drop.q2
      refine UpI.next (by omega) hlt ?_
      rw [getD_get []] at H
      unfold recTo
      rw [if_neg hne]
      exact H
    · have he : t = k := by have : (t : Int) = k := by simpa using he
                            omega
      refine UpI.next (by omega) hlt ?_
      unfold recTo
      rw [if_pos he]
      exact H
  · have hge := ge_of_dec hge
    have : t = n := by omega
    subst this
    exact ⟨rfl, H⟩
end
end Go.Proofs.Ytjmhahjmbmiepaa.D
