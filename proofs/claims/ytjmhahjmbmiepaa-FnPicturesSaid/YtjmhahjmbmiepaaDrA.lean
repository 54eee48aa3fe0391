/- Contracts: the cursor that draws. -/
import Derived.Test.YtjmhahjmbmiepaaSepF
import Derived.Test.YtjmhahjmbmiepaaBnkA
import Derived.Test.YtjmhahjmbmiepaaMd
namespace Go.Proofs.Ytjmhahjmbmiepaa.D
open Go
set_option linter.unusedVariables false
set_option linter.unusedSimpArgs false

/-- Bytes that a call only reads. -/
def CodeR (h : Heap) (a : Option Addr) (n : Nat) : Prop := ∀ i, i < n → ∃ b o x, a = some ⟨b, o, none⟩ ∧ cellAt h b (o + i) = some (.int .u8 x) ∧ 0 ≤ x ∧ x ≤ 255
theorem CodeR.ext {h h' : Heap} {a : Option Addr} {n : Nat} (r : CodeR h a n) (f : Ext h h') : CodeR h' a n := fun i hi => by
  obtain ⟨b, o, x, ha, hc, hx⟩ := r i hi
  exact ⟨b, o, x, ha, cell_frm f hc (by simp), hx⟩
/-- A cursor over them, 'k' steps on at most. -/
def curA (b : Nat) (a : Option Addr) (n c k : Nat) : Asn where
  holds := fun h F => ∃ p s : Int, 0 ≤ p ∧ p ≤ k ∧ (rowA b ty_spec_l1Cur [.slice a n c, .int .i64 p, .int .u64 s]).holds h F
  frame := by
    rintro h h' F ⟨p, s, h0, h1, r⟩ f
    exact ⟨p, s, h0, h1, (rowA _ _ _).frame r f⟩
  lt := by
    rintro h F ⟨p, s, h0, h1, r⟩ b hb
    exact (rowA _ _ _).lt r b hb
class CurIn (b : Nat) (L : List Asn) (a : outParam (Option Addr)) (n c k : outParam Nat) (R : outParam (List Asn)) : Prop where
  perm : L.Perm (curA b a n c k :: R)
section
variable {h h0 : Heap} {L R T : List Asn} {A : Asn} {a a' : Option Addr} {b n c k k' n' c' : Nat} {P : Prop}
theorem Own.curOpen (H : Own h (curA b a n c k :: L)) : ∃ p s : Int, 0 ≤ p ∧ p ≤ k ∧ Own h (rowA b ty_spec_l1Cur [.slice a n c, .int .i64 p, .int .u64 s] :: L) := by
  obtain ⟨F, F1, F2, e, d, ⟨p, s, h0, h1, r⟩, k⟩ := H
  exact ⟨p, s, h0, h1, F, F1, F2, e, d, r, k⟩
theorem Own.curShut {p s : Int} (H : Own h (rowA b ty_spec_l1Cur [.slice a n c, .int .i64 p, .int .u64 s] :: L)) (h0 : 0 ≤ p) (h1 : p ≤ k) : Own h (curA b a n c k :: L) := by
  obtain ⟨F, F1, F2, e, d, r, q⟩ := H
  exact ⟨F, F1, F2, e, d, ⟨p, s, h0, h1, r⟩, q⟩
instance CurIn.head : CurIn b (curA b a n c k :: L) a n c k L := ⟨.refl _⟩
instance (priority := low) CurIn.tail [i : CurIn b L a n c k R] : CurIn b (A :: L) a n c k (A :: R) := ⟨perm_back i.perm⟩
instance SubL.cur [i : CurIn b L a n c k R] [j : SubL R T P] : SubL L (curA b a n c k' :: T) (k ≤ k' ∧ P) := ⟨fun hp => by
  refine (Les.perm i.perm).trans (Les.trans ⟨?_⟩ (j.les hp.2).cons)
  rintro h F ⟨F1, F2, e, d, ⟨p, s, h0, h1, r⟩, q⟩
  exact ⟨F, ⟨F1, F2, e, d, ⟨p, s, h0, by omega, r⟩, q⟩, fun _ h => h⟩⟩

theorem and255 (x : Int) : 0 ≤ IntKind.i64.wrap (bitsI .and .u64 x 255) ∧ IntKind.i64.wrap (bitsI .and .u64 x 255) ≤ 255 := by
  unfold bitsI
  have h1 : (BitVec.ofInt 64 x &&& BitVec.ofInt 64 255).toNat ≤ 255 := by
    rw [BitVec.toNat_and]
    exact Nat.le_trans Nat.and_le_right (by decide)
  show 0 ≤ IntKind.i64.wrap (IntKind.u64.wrap ((BitVec.ofInt 64 x &&& BitVec.ofInt 64 255).toNat : Int)) ∧ IntKind.i64.wrap (IntKind.u64.wrap ((BitVec.ofInt 64 x &&& BitVec.ofInt 64 255).toNat : Int)) ≤ 255
  generalize (BitVec.ofInt 64 x &&& BitVec.ofInt 64 255).toNat = m at h1
  have h2 : IntKind.u64.wrap (m : Int) = m := by
    unfold IntKind.wrap
    simp only [IntKind.bits, IntKind.signed]
    have : (m : Int) % 18446744073709551616 = m := Int.emod_eq_of_lt (by omega) (by omega)
    simp [this]
  rw [h2, wrap64_of (by omega) (by omega)]
  omega

theorem next_ok (H : Own h L) [i : CurIn b L a n c k R] [q : OldOf R h0] (cd : CodeR h0 a n) (hk : k < 4611686018427387904) :
    CallsH PP fn_spec_l1Cur_next [.pointer (some ⟨b, 0, none⟩)] h fun v h' => ∃ x : Int, v = .int .i64 x ∧ 0 ≤ x ∧ x ≤ 255 ∧ Own h' (curA b a n c (k + 1) :: R) := by
  refine calls_spec_l1Cur_next _ _ ?_
  unfold M_spec_l1Cur_next
  have H := H.perm i.perm
  obtain ⟨p, s, h1, h2, H⟩ := H.curOpen
  intro K hK
  have fin : ∀ x : Int, 0 ≤ x → x ≤ 255 → K [.int .i64 x] h := by
    intro x hx0 hx1
    apply hK
    repeat' (first | (first | ((refine (within_ok _ _ _).mono ?_; rintro v_ g_ ⟨rfl, rfl⟩; refine ⟨_, rfl, ?_⟩)) | (first | refine ldI (by first | assumption | exact H.ld (by rfl) | exact H.ldO (by assumption)) ?_ | refine ldS (by first | assumption | exact H.ld (by rfl) | exact H.ldO (by assumption)) ?_ | refine ldB (by first | assumption | exact H.ld (by rfl) | exact H.ldO (by assumption)) ?_ | refine ldT (by first | assumption | exact H.ld (by rfl) | exact H.ldO (by assumption)) ?_ | refine re1 (by first | assumption | exact H.ld (by rfl) | exact H.ldO (by assumption)) ?_ | fail) | (first | refine SlR.nxI (by assumption) (by first | omega | assumption) fun b_ o_ e_ r_ => ?_ | refine SlR.nxB (by assumption) (by first | omega | assumption) fun b_ o_ e_ => ?_ | refine SlR.nxS (by assumption) (by first | omega | assumption) fun b_ o_ a_ n_ c_ e_ s_ l_ => ?_ | refine SlR.ixI (by assumption) (by first | omega | assumption) (by first | omega | assumption) fun b_ o_ e_ r_ => ?_ | refine SlR.ixB (by assumption) (by first | omega | assumption) (by first | omega | assumption) fun b_ o_ e_ => ?_ | refine SlR.ixS (by assumption) (by first | omega | assumption) (by first | omega | assumption) fun b_ o_ a_ n_ c_ e_ s_ => ?_ | fail) | (refine br (fun hc => ?_) (fun hc => ?_) <;> (try simp only [decide_eq_true_eq, decide_eq_false_iff_not, beq_iff_eq, bne_iff_ne, ne_eq, Bool.not_eq_true', Bool.not_eq_false', Bool.not_eq_true, Bool.not_eq_false, beq_eq_false_iff_ne, bne_eq_false_iff_eq, Int.not_lt, Int.not_le, gt_iff_lt, ge_iff_le, Decidable.not_not] at hc)) | (refine H.nw fun g_ H => ?_) | fail) | (first | refine H.st (by simp) fun g_ H => ?_ | refine H.sts (by simp) fun g_ H => ?_ | fail) | fail)
    · refine ⟨x, rfl, hx0, hx1, H.curShut (s := _) ?_ ?_⟩ <;> rw [wrap64_of (by omega) (by omega)] <;> omega
    · refine ⟨by decide, _, rfl, (and255 _).1, (and255 _).2, H.curShut (s := _) ?_ ?_⟩ <;> rw [wrap64_of (by omega) (by omega)] <;> omega
  repeat' (first | (first | refine ldI (by first | assumption | exact H.ld (by rfl) | exact H.ldO (by assumption)) ?_ | refine ldS (by first | assumption | exact H.ld (by rfl) | exact H.ldO (by assumption)) ?_ | refine ldB (by first | assumption | exact H.ld (by rfl) | exact H.ldO (by assumption)) ?_ | refine ldT (by first | assumption | exact H.ld (by rfl) | exact H.ldO (by assumption)) ?_ | refine re1 (by first | assumption | exact H.ld (by rfl) | exact H.ldO (by assumption)) ?_ | fail) | (refine br (fun hc => ?_) (fun hc => ?_) <;> (try simp only [decide_eq_true_eq, decide_eq_false_iff_not, beq_iff_eq, bne_iff_ne, ne_eq, Bool.not_eq_true', Bool.not_eq_false', Bool.not_eq_true, Bool.not_eq_false, beq_eq_false_iff_ne, bne_eq_false_iff_eq, Int.not_lt, Int.not_le, gt_iff_lt, ge_iff_le, Decidable.not_not] at hc)) | fail)
  · obtain ⟨b', o', x, rfl, hx, hx0, hx1⟩ := cd p.toNat (by omega)
    refine ⟨b', o', rfl, by omega, by omega, _, H.ldO hx, ?_⟩
    rw [wrap64_of (by omega) (by omega)]
    exact fin x hx0 hx1
  · exact fin 0 (by omega) (by omega)

theorem pick_ok (H : Own h L) [i : CurIn b L a n c k R] [q : OldOf R h0] (cd : CodeR h0 a n) (hk : k < 4611686018427387900) (m : Int) :
    CallsH PP fn_spec_l1Cur_pick [.pointer (some ⟨b, 0, none⟩), .int .i64 m] h fun v h' => ∃ x : Int, v = .int .i64 x ∧ 0 ≤ x ∧ (0 < m → x < m) ∧ (m ≤ 1 → x = 0) ∧ Own h' (curA b a n c (k + 2) :: R) := by
  refine calls_spec_l1Cur_pick _ _ _ ?_
  unfold M_spec_l1Cur_pick
  (refine br (fun hc => ?_) (fun hc => ?_) <;> (try simp only [decide_eq_true_eq, decide_eq_false_iff_not, beq_iff_eq, bne_iff_ne, ne_eq, Bool.not_eq_true', Bool.not_eq_false', Bool.not_eq_true, Bool.not_eq_false, beq_eq_false_iff_ne, bne_eq_false_iff_eq, Int.not_lt, Int.not_le, gt_iff_lt, ge_iff_le, Decidable.not_not] at hc))
  · exact ⟨0, rfl, by omega, fun h => h, fun _ => rfl, (H.perm i.perm).to ⟨by omega, trivial⟩⟩
  · refine (next_ok H cd (by omega)).mono ?_
    rintro v g ⟨x, rfl, hx0, hx1, H⟩
    refine ⟨_, rfl, ?_⟩
    (refine br (fun hc => ?_) (fun hc => ?_) <;> (try simp only [decide_eq_true_eq, decide_eq_false_iff_not, beq_iff_eq, bne_iff_ne, ne_eq, Bool.not_eq_true', Bool.not_eq_false', Bool.not_eq_true, Bool.not_eq_false, beq_eq_false_iff_ne, bne_eq_false_iff_eq, Int.not_lt, Int.not_le, gt_iff_lt, ge_iff_le, Decidable.not_not] at hc))
    · refine (next_ok H cd (by omega)).mono ?_
      rintro v g ⟨y, rfl, hy0, hy1, H⟩
      refine ⟨_, rfl, by omega, ?_⟩
      have e1 : IntKind.i64.wrap (x * 256) = x * 256 := wrap64_of (by omega) (by omega)
      rw [e1, wrap64_of (by omega) (by omega)]
      refine ⟨_, rfl, Int.tmod_nonneg _ (by omega), fun _ => Int.tmod_lt_of_pos _ (by omega), fun _ => by omega, H⟩
    · refine ⟨by omega, _, rfl, Int.tmod_nonneg _ (by omega), fun _ => Int.tmod_lt_of_pos _ (by omega), fun _ => by omega, H.to ⟨by omega, trivial⟩⟩

theorem one_ok (H : Own h L) [i : CurIn b L a n c k R] [q : OldOf R h0] (cd : CodeR h0 a n) (hk : k < 4611686018427387900) (m : Int) :
    CallsH PP fn_spec_l1Cur_one [.pointer (some ⟨b, 0, none⟩), .int .i64 m] h fun v h' => ∃ x : Bool, v = .bool x ∧ Own h' (curA b a n c (k + 2) :: R) := by
  refine calls_spec_l1Cur_one _ _ _ ?_
  unfold M_spec_l1Cur_one
  refine (pick_ok H cd hk m).mono ?_
  rintro v g ⟨x, rfl, _, _, _, H⟩
  exact ⟨_, rfl, _, rfl, H⟩

/-- One of some numbers that lie in a row of the caller's own. -/
theorem among_ok {e : Nat} {t : TypeId} {cs : List Value} {m c1 : Nat} {R2 : List Asn} (H : Own h L) [i : CurIn b L a n c k R] [q : OldOf R h0] [j : RowIn e R t cs R2] (cd : CodeR h0 a n) (hk : k < 4611686018427387900)
    (xs : List Int) (hcs : cs = xs.map fun x => .int .i64 x) (hm : m = xs.length) (hpos : 0 < m) :
    CallsH PP fn_spec_l1Cur_among [.pointer (some ⟨b, 0, none⟩), .slice (some ⟨e, 0, none⟩) m c1] h fun v h' => ∃ x : Int, v = .int .i64 x ∧ x ∈ xs ∧ Own h' (curA b a n c (k + 2) :: R) := by
  refine calls_spec_l1Cur_among _ _ _ _ _ ?_
  unfold M_spec_l1Cur_among
  refine (pick_ok H cd hk m).mono ?_
  rintro v g ⟨x, rfl, h1, h2, _, H⟩
  have hlt := h2 (by omega)
  have hr := ((H.perm (j.perm.cons _)).p1).row m0
  have hi : x.toNat < xs.length := by omega
  refine ⟨_, rfl, e, 0, rfl, h1, by omega, xs[x.toNat], ?_, _, rfl, List.getElem_mem _, H⟩
  rw [hr.cell, hcs, Nat.zero_add, List.getElem?_map, List.getElem?_eq_getElem hi]
  rfl
end
end Go.Proofs.Ytjmhahjmbmiepaa.D
