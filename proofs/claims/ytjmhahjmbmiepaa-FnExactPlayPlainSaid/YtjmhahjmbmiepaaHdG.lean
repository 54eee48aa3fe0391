/- Contracts: a measurement taken by the reference's head. -/
import Derived.Test.YtjmhahjmbmiepaaHdF
namespace Go.Proofs.Ytjmhahjmbmiepaa.D
open Go
set_option linter.unusedVariables false
set_option linter.unusedSimpArgs false

/-- Nothing. -/
def empA : Asn where
  holds := fun h F => ∀ x, ¬ F x
  frame := fun r _ => r
  lt := fun r x hx => absurd hx (r x)
section
variable {α : Type} {k : Kind α} {h : Heap} {L : List Asn} {xs : List α} {a : Option Addr} {n c : Nat}
theorem Own.emp (H : Own h L) : Own h (empA :: L) := H.add (G := fun _ => False) (Frm.refl _ _) (fun _ h => h) fun b hb => hb.elim
/-- A slice taken apart: its cells stay where they are, its elements are two lots. -/
theorem Own.cutAll (H : Own h (slA k xs a n c :: L)) {i : Nat} (hi : i ≤ n) : ∃ (c1 c2 : List Value) (X : Asn), Own h (X :: elsA k (xs.take i) c1 :: elsA k (xs.drop i) c2 :: L) ∧ (a = none → n = 0) ∧ (a = none → subA a c i k.size = none) ∧
    (∀ (g : Heap) (L' : List Asn), Own g L' → X ∈ L' → CellsAt g a c1 (i * k.size) ∧ (subA a c i k.size = none → n - i = 0) ∧ CellsAt g (subA a c i k.size) c2 ((n - i) * k.size)) := by
  obtain ⟨hn, hc, hm, hs⟩ := H.slOpen
  rcases hs with ⟨rfl, rfl, H0⟩ | ⟨b, pre, cs, post, rfl, hp, H⟩
  · have h0 : xs = [] := List.eq_nil_of_length_eq_zero (by omega)
    subst h0
    have hi0 : i = 0 := by omega
    have hn0 : n = 0 := by omega
    subst hi0 hn0
    refine ⟨[], [], empA, by simpa using ((H0.elsNil (k := k)).elsNil (k := k)).emp, fun _ => rfl, fun _ => rfl, fun g L' _ _ => ⟨⟨by simp, trivial⟩, fun _ => rfl, ⟨by simp, trivial⟩⟩⟩
  · obtain ⟨c1, c2, rfl, hl, H⟩ := H.p1.elsSplit (i := i) (by omega)
    have hl2 := H.p1.elsLen
    rw [List.length_drop, ← hn] at hl2
    refine ⟨c1, c2, rowA b k.tid (pre ++ (c1 ++ c2) ++ post), H.p2, (fun h => by cases h), ?_, fun g L' H' hX => ?_⟩
    · intro h0; cases h0
    have r := H'.row hX
    refine ⟨cellsRow (pre := pre) (post := c2 ++ post) (by simpa using r) rfl hl, ?_, ?_⟩
    · intro h0
      by_cases hci : c = i
      · omega
      · rw [subA_some hci] at h0; cases h0
    · by_cases hci : c = i
      · have hni : n - i = 0 := by omega
        rw [hni, Nat.zero_mul] at hl2 ⊢
        have : c2 = [] := List.eq_nil_of_length_eq_zero hl2
        subst this
        unfold subA
        rw [if_pos hci]
        exact ⟨rfl, rfl, fun j v hj => by simp at hj⟩
      · rw [subA_some hci]
        exact cellsRow (pre := pre ++ c1) (post := post) (by simpa using r) (by simp; omega) hl2
end
class ElsIn (cs : List Value) (L : List Asn) (α : outParam Type) (k : outParam (Kind α)) (xs : outParam (List α)) (R : outParam (List Asn)) : Prop where
  perm : L.Perm (elsA k xs cs :: R)
instance ElsIn.head {α : Type} {k : Kind α} {xs : List α} {cs : List Value} {L : List Asn} : ElsIn cs (elsA k xs cs :: L) α k xs L := ⟨.refl _⟩
instance (priority := low) ElsIn.tail {α : Type} {k : Kind α} {xs : List α} {cs : List Value} {L R : List Asn} {A : Asn} [i : ElsIn cs L α k xs R] : ElsIn cs (A :: L) α k xs (A :: R) := ⟨perm_back i.perm⟩
/-- The slice and the elements to the front. -/
theorem Own.frontEls {α β : Type} {k : Kind α} {l : Kind β} {xs : List α} {ys : List β} {h : Heap} {L R R' : List Asn} (H : Own h L) (a : Option Addr) (n c : Nat) (cs : List Value) [i : SlIn a n c L α k xs R] [j : ElsIn cs R β l ys R'] : Own h (slA k xs a n c :: elsA l ys cs :: R') :=
  H.perm (i.perm.trans (j.perm.cons _))
section
variable {h : Heap} {L : List Asn}
theorem l13Take_ok {x : HeadD} {s : SayD} {a : Option Addr} {n c : Nat} (w : WfH x) (hs : s.ok) (ho : 0 ≤ x.offset ∧ x.offset ≤ 1000000) (H : Own h (slA kRw x.rows a n c :: L)) :
    CallsH PP fn_spec_l13Take [.agg ⟨[.slice a n c, .int .i64 x.offset]⟩, .agg ⟨s.cells⟩] h fun v h' => ∃ a' n' c', v = .tuple ⟨[.agg ⟨[.slice a' n' c', .int .i64 (takeH x s).1.offset]⟩, .int .i64 (takeH x s).2]⟩ ∧ Own h' (slA kRw (takeH x s).1.rows a' n' c' :: L) := by
  refine calls_spec_l13Take _ _ _ _ _ _ _ ?_
  unfold M_spec_l13Take
  rw [takeH_offset]
  have e1 : IntKind.i64.wrap (x.offset + 1) = x.offset + 1 := wrap64_of (by omega) (by omega)
  obtain ⟨hn, hc0, hm⟩ := H.ln a n c
  have hfew := w.few
  have hkle := posD_le x.rows s.name
  refine H.nw fun h6 H => ?_
  refine H.nw fun h7 H => ?_
  refine H.nw fun h8 H => ?_
  (first | refine ldI (by first | assumption | exact H.ld (by rfl) | exact H.ldM (by rfl) | exact H.ldM0 (by rfl) | exact H.ldO (by assumption)) ?_ | refine ldS (by first | assumption | exact H.ld (by rfl) | exact H.ldM (by rfl) | exact H.ldM0 (by rfl) | exact H.ldO (by assumption)) ?_ | refine ldB (by first | assumption | exact H.ld (by rfl) | exact H.ldM (by rfl) | exact H.ldM0 (by rfl) | exact H.ldO (by assumption)) ?_ | refine ldT (by first | assumption | exact H.ld (by rfl) | exact H.ldM (by rfl) | exact H.ldM0 (by rfl) | exact H.ldO (by assumption)) ?_ | refine re1 (by first | assumption | exact H.ld (by rfl) | exact H.ldM (by rfl) | exact H.ldM0 (by rfl) | exact H.ldO (by assumption)) ?_ | fail)
  rw [e1]
  refine H.st (by simp) fun h11 H => ?_
  intro K12 hK12
  have fin : ∀ g : Heap, Own g (rowA h.size ty_impl_Head [.slice a n c, .int .i64 (x.offset + 1)] :: slA kRw x.rows a n c :: rowA h6.size ty_impl_Say [.string s.name, .int .i64 s.at_, .int .i64 s.value] :: rowA h7.size ty_impl_Head [.slice none 0 0, .int .i64 0] :: L) →
      K12 [.int .i64 (posD x.rows s.name : Nat)] g := by
    intro g H
    apply hK12
    repeat' (first | (first | refine ldI (by first | assumption | exact H.ld (by rfl) | exact H.ldM (by rfl) | exact H.ldM0 (by rfl) | exact H.ldO (by assumption)) ?_ | refine ldS (by first | assumption | exact H.ld (by rfl) | exact H.ldM (by rfl) | exact H.ldM0 (by rfl) | exact H.ldO (by assumption)) ?_ | refine ldB (by first | assumption | exact H.ld (by rfl) | exact H.ldM (by rfl) | exact H.ldM0 (by rfl) | exact H.ldO (by assumption)) ?_ | refine ldT (by first | assumption | exact H.ld (by rfl) | exact H.ldM (by rfl) | exact H.ldM0 (by rfl) | exact H.ldO (by assumption)) ?_ | refine re1 (by first | assumption | exact H.ld (by rfl) | exact H.ldM (by rfl) | exact H.ldM0 (by rfl) | exact H.ldO (by assumption)) ?_ | fail) | (refine H.nw fun g_ H => ?_) | (first | refine H.st (by simp) fun g_ H => ?_ | refine H.sts (by simp) fun g_ H => ?_ | fail) | fail)
    have H : Own g_ (rowA g.size ty_impl_Sample [.int .i64 s.at_, .int .i64 s.value] :: rowA h.size ty_impl_Head [.slice a n c, .int .i64 (x.offset + 1)] :: slA kRw x.rows a n c :: rowA h6.size ty_impl_Say [.string s.name, .int .i64 s.at_, .int .i64 s.value] :: rowA h7.size ty_impl_Head [.slice none 0 0, .int .i64 0] :: L) := H.to (by repeat' (first | exact trivial | exact rfl | omega | (refine ⟨?_, ?_⟩)))
    intro K19 hK19
    have fin19 : ∀ t : Bool, t = decide (posD x.rows s.name < x.rows.length ∧ (x.rows.getD (posD x.rows s.name) default).name = s.name) → K19 [.bool t] g_ := by
      intro t ht
      apply hK19
      (refine br (fun hc => ?_) (fun hc => ?_) <;> (try simp only [decide_eq_true_eq, decide_eq_false_iff_not, beq_iff_eq, bne_iff_ne, ne_eq, Bool.not_eq_true', Bool.not_eq_false', Bool.not_eq_true, Bool.not_eq_false, beq_eq_false_iff_ne, bne_eq_false_iff_eq, Int.not_lt, Int.not_le, gt_iff_lt, ge_iff_le, Decidable.not_not] at hc))
      · rw [hc] at ht
        have hf := of_decide_eq_true ht.symm
        have hk : posD x.rows s.name < n := by omega
        have h40 := w.at hf.1
        have hT : takeH x s = (⟨x.rows.set (posD x.rows s.name) ⟨s.name, (putSample (x.rows.getD (posD x.rows s.name) default).samples s).1⟩, x.offset + 1⟩, (putSample (x.rows.getD (posD x.rows s.name) default).samples s).2) := by unfold takeH; rw [if_pos hf]
        have hnm := hf.2
        generalize posD x.rows s.name = k at *
        (first | refine ldI (by first | assumption | exact H.ld (by rfl) | exact H.ldM (by rfl) | exact H.ldM0 (by rfl) | exact H.ldO (by assumption)) ?_ | refine ldS (by first | assumption | exact H.ld (by rfl) | exact H.ldM (by rfl) | exact H.ldM0 (by rfl) | exact H.ldO (by assumption)) ?_ | refine ldB (by first | assumption | exact H.ld (by rfl) | exact H.ldM (by rfl) | exact H.ldM0 (by rfl) | exact H.ldO (by assumption)) ?_ | refine ldT (by first | assumption | exact H.ld (by rfl) | exact H.ldM (by rfl) | exact H.ldM0 (by rfl) | exact H.ldO (by assumption)) ?_ | refine re1 (by first | assumption | exact H.ld (by rfl) | exact H.ldM (by rfl) | exact H.ldM0 (by rfl) | exact H.ldO (by assumption)) ?_ | fail)
        obtain ⟨b, o, pr, ci, po, rfl, hci, H⟩ := (H.front a n c).openAt2 2 ty_impl_Row hk default
        obtain ⟨sa, ns, sc, rfl, hok, H⟩ := H.p1.openRow
        have H := H.p1
        simp only [Int.toNat_natCast]
        have ls := H.ln sa ns sc
        have rs := H.rd sa ns sc
        have hpos : 0 < (x.rows.getD k default).samples.length := List.length_pos_iff.2 h40.1
        have back : ∀ (g : Heap) (ss : List SampleD) (sa' : Option Addr) (ns' sc' : Nat), (putSample (x.rows.getD k default).samples s).1 = ss →
            Own g (slA kSm ss sa' ns' sc' :: midA b (o + k * 2) ty_impl_Row pr [.string (x.rows.getD k default).name, .slice sa' ns' sc'] po :: restA kRw x.rows k (some ⟨b, o, none⟩) n c b (o + k * 2) pr po :: L) →
            Own g (slA kRw (takeH x s).1.rows (some ⟨b, o, none⟩) n c :: L) := by
          intro g ss sa' ns' sc' hss H
          have H := Own.shutRow (t := ty_impl_Row) (RowD.mk s.name ss) trivial H
          rw [hnm] at H
          have H := H.back b (o + k * 2)
          rw [hT, hss]
          exact H.to (by repeat' (first | exact trivial | exact rfl | omega | (refine ⟨?_, ?_⟩)))
        refine ⟨b, o, rfl, by omega, by omega, ?_⟩
        (first | refine ldI (by first | assumption | exact H.ld (by rfl) | exact H.ldM (by rfl) | exact H.ldM0 (by rfl) | exact H.ldO (by assumption)) ?_ | refine ldS (by first | assumption | exact H.ld (by rfl) | exact H.ldM (by rfl) | exact H.ldM0 (by rfl) | exact H.ldO (by assumption)) ?_ | refine ldB (by first | assumption | exact H.ld (by rfl) | exact H.ldM (by rfl) | exact H.ldM0 (by rfl) | exact H.ldO (by assumption)) ?_ | refine ldT (by first | assumption | exact H.ld (by rfl) | exact H.ldM (by rfl) | exact H.ldM0 (by rfl) | exact H.ldO (by assumption)) ?_ | refine re1 (by first | assumption | exact H.ld (by rfl) | exact H.ldM (by rfl) | exact H.ldM0 (by rfl) | exact H.ldO (by assumption)) ?_ | fail)
        have hw : IntKind.i64.wrap ((ns : Int) - 1) = ((ns - 1 : Nat) : Int) := by rw [wrap64_of (by omega) (by omega)]; omega
        rw [hw]
        refine rs.nxSample (i := ns - 1) (by omega) fun b2 o2 f1 f2 _ => ?_
        simp only [Int.toNat_natCast]
        have hget : (x.rows.getD k default).samples.getD (ns - 1) default = (x.rows.getD k default).samples.getD ((x.rows.getD k default).samples.length - 1) default := by rw [ls.1]
        rw [hget] at f1
        (first | refine ldI (by first | assumption | exact H.ld (by rfl) | exact H.ldM (by rfl) | exact H.ldM0 (by rfl) | exact H.ldO (by assumption)) ?_ | refine ldS (by first | assumption | exact H.ld (by rfl) | exact H.ldM (by rfl) | exact H.ldM0 (by rfl) | exact H.ldO (by assumption)) ?_ | refine ldB (by first | assumption | exact H.ld (by rfl) | exact H.ldM (by rfl) | exact H.ldM0 (by rfl) | exact H.ldO (by assumption)) ?_ | refine ldT (by first | assumption | exact H.ld (by rfl) | exact H.ldM (by rfl) | exact H.ldM0 (by rfl) | exact H.ldO (by assumption)) ?_ | refine re1 (by first | assumption | exact H.ld (by rfl) | exact H.ldM (by rfl) | exact H.ldM0 (by rfl) | exact H.ldO (by assumption)) ?_ | fail)
        (first | refine ldI (by first | assumption | exact H.ld (by rfl) | exact H.ldM (by rfl) | exact H.ldM0 (by rfl) | exact H.ldO (by assumption)) ?_ | refine ldS (by first | assumption | exact H.ld (by rfl) | exact H.ldM (by rfl) | exact H.ldM0 (by rfl) | exact H.ldO (by assumption)) ?_ | refine ldB (by first | assumption | exact H.ld (by rfl) | exact H.ldM (by rfl) | exact H.ldM0 (by rfl) | exact H.ldO (by assumption)) ?_ | refine ldT (by first | assumption | exact H.ld (by rfl) | exact H.ldM (by rfl) | exact H.ldM0 (by rfl) | exact H.ldO (by assumption)) ?_ | refine re1 (by first | assumption | exact H.ld (by rfl) | exact H.ldM (by rfl) | exact H.ldM0 (by rfl) | exact H.ldO (by assumption)) ?_ | fail)
        (refine br (fun hc => ?_) (fun hc => ?_) <;> (try simp only [decide_eq_true_eq, decide_eq_false_iff_not, beq_iff_eq, bne_iff_ne, ne_eq, Bool.not_eq_true', Bool.not_eq_false', Bool.not_eq_true, Bool.not_eq_false, beq_eq_false_iff_ne, bne_eq_false_iff_eq, Int.not_lt, Int.not_le, gt_iff_lt, ge_iff_le, Decidable.not_not] at hc))
        · have hp : putSample (x.rows.getD k default).samples s = ((x.rows.getD k default).samples, 2) := by unfold putSample; rw [if_pos hpos, if_pos hc]
          repeat' (first | (first | refine ldI (by first | assumption | exact H.ld (by rfl) | exact H.ldM (by rfl) | exact H.ldM0 (by rfl) | exact H.ldO (by assumption)) ?_ | refine ldS (by first | assumption | exact H.ld (by rfl) | exact H.ldM (by rfl) | exact H.ldM0 (by rfl) | exact H.ldO (by assumption)) ?_ | refine ldB (by first | assumption | exact H.ld (by rfl) | exact H.ldM (by rfl) | exact H.ldM0 (by rfl) | exact H.ldO (by assumption)) ?_ | refine ldT (by first | assumption | exact H.ld (by rfl) | exact H.ldM (by rfl) | exact H.ldM0 (by rfl) | exact H.ldO (by assumption)) ?_ | refine re1 (by first | assumption | exact H.ld (by rfl) | exact H.ldM (by rfl) | exact H.ldM0 (by rfl) | exact H.ldO (by assumption)) ?_ | fail) | (first | refine H.st (by simp) fun g_ H => ?_ | refine H.sts (by simp) fun g_ H => ?_ | fail) | fail)
          exact ⟨_, _, _, by rw [hT, hp], back _ _ sa ns sc (by rw [hp]) (H.to (by repeat' (first | exact trivial | exact rfl | omega | (refine ⟨?_, ?_⟩))))⟩
        · have h1 := hc
          (first | refine ldI (by first | assumption | exact H.ld (by rfl) | exact H.ldM (by rfl) | exact H.ldM0 (by rfl) | exact H.ldO (by assumption)) ?_ | refine ldS (by first | assumption | exact H.ld (by rfl) | exact H.ldM (by rfl) | exact H.ldM0 (by rfl) | exact H.ldO (by assumption)) ?_ | refine ldB (by first | assumption | exact H.ld (by rfl) | exact H.ldM (by rfl) | exact H.ldM0 (by rfl) | exact H.ldO (by assumption)) ?_ | refine ldT (by first | assumption | exact H.ld (by rfl) | exact H.ldM (by rfl) | exact H.ldM0 (by rfl) | exact H.ldO (by assumption)) ?_ | refine re1 (by first | assumption | exact H.ld (by rfl) | exact H.ldM (by rfl) | exact H.ldM0 (by rfl) | exact H.ldO (by assumption)) ?_ | fail)
          (refine br (fun hc => ?_) (fun hc => ?_) <;> (try simp only [decide_eq_true_eq, decide_eq_false_iff_not, beq_iff_eq, bne_iff_ne, ne_eq, Bool.not_eq_true', Bool.not_eq_false', Bool.not_eq_true, Bool.not_eq_false, beq_eq_false_iff_ne, bne_eq_false_iff_eq, Int.not_lt, Int.not_le, gt_iff_lt, ge_iff_le, Decidable.not_not] at hc))
          · have hp : putSample (x.rows.getD k default).samples s = ((x.rows.getD k default).samples, 3) := by unfold putSample; rw [if_pos hpos, if_neg h1, if_pos hc]
            repeat' (first | (first | refine ldI (by first | assumption | exact H.ld (by rfl) | exact H.ldM (by rfl) | exact H.ldM0 (by rfl) | exact H.ldO (by assumption)) ?_ | refine ldS (by first | assumption | exact H.ld (by rfl) | exact H.ldM (by rfl) | exact H.ldM0 (by rfl) | exact H.ldO (by assumption)) ?_ | refine ldB (by first | assumption | exact H.ld (by rfl) | exact H.ldM (by rfl) | exact H.ldM0 (by rfl) | exact H.ldO (by assumption)) ?_ | refine ldT (by first | assumption | exact H.ld (by rfl) | exact H.ldM (by rfl) | exact H.ldM0 (by rfl) | exact H.ldO (by assumption)) ?_ | refine re1 (by first | assumption | exact H.ld (by rfl) | exact H.ldM (by rfl) | exact H.ldM0 (by rfl) | exact H.ldO (by assumption)) ?_ | fail) | (first | refine H.st (by simp) fun g_ H => ?_ | refine H.sts (by simp) fun g_ H => ?_ | fail) | fail)
            exact ⟨_, _, _, by rw [hT, hp], back _ _ sa ns sc (by rw [hp]) (H.to (by repeat' (first | exact trivial | exact rfl | omega | (refine ⟨?_, ?_⟩))))⟩
          · have h2 : ¬ ((x.rows.getD k default).samples.getD ((x.rows.getD k default).samples.length - 1) default).at_ > s.at_ := by omega
            (refine br (fun hc => ?_) (fun hc => ?_) <;> (try simp only [decide_eq_true_eq, decide_eq_false_iff_not, beq_iff_eq, bne_iff_ne, ne_eq, Bool.not_eq_true', Bool.not_eq_false', Bool.not_eq_true, Bool.not_eq_false, beq_eq_false_iff_ne, bne_eq_false_iff_eq, Int.not_lt, Int.not_le, gt_iff_lt, ge_iff_le, Decidable.not_not] at hc))
            · have hp : putSample (x.rows.getD k default).samples s = ((x.rows.getD k default).samples, 4) := by unfold putSample; rw [if_pos hpos, if_neg h1, if_neg h2, if_pos (by omega)]
              repeat' (first | (first | refine ldI (by first | assumption | exact H.ld (by rfl) | exact H.ldM (by rfl) | exact H.ldM0 (by rfl) | exact H.ldO (by assumption)) ?_ | refine ldS (by first | assumption | exact H.ld (by rfl) | exact H.ldM (by rfl) | exact H.ldM0 (by rfl) | exact H.ldO (by assumption)) ?_ | refine ldB (by first | assumption | exact H.ld (by rfl) | exact H.ldM (by rfl) | exact H.ldM0 (by rfl) | exact H.ldO (by assumption)) ?_ | refine ldT (by first | assumption | exact H.ld (by rfl) | exact H.ldM (by rfl) | exact H.ldM0 (by rfl) | exact H.ldO (by assumption)) ?_ | refine re1 (by first | assumption | exact H.ld (by rfl) | exact H.ldM (by rfl) | exact H.ldM0 (by rfl) | exact H.ldO (by assumption)) ?_ | fail) | (first | refine H.st (by simp) fun g_ H => ?_ | refine H.sts (by simp) fun g_ H => ?_ | fail) | fail)
              exact ⟨_, _, _, by rw [hT, hp], back _ _ sa ns sc (by rw [hp]) (H.to (by repeat' (first | exact trivial | exact rfl | omega | (refine ⟨?_, ?_⟩))))⟩
            · have hp : putSample (x.rows.getD k default).samples s = ((x.rows.getD k default).samples ++ [⟨s.at_, s.value⟩], 1) := by unfold putSample; rw [if_pos hpos, if_neg h1, if_neg h2, if_neg (by omega)]
              repeat' (first | (first | refine ldI (by first | assumption | exact H.ld (by rfl) | exact H.ldM (by rfl) | exact H.ldM0 (by rfl) | exact H.ldO (by assumption)) ?_ | refine ldS (by first | assumption | exact H.ld (by rfl) | exact H.ldM (by rfl) | exact H.ldM0 (by rfl) | exact H.ldO (by assumption)) ?_ | refine ldB (by first | assumption | exact H.ld (by rfl) | exact H.ldM (by rfl) | exact H.ldM0 (by rfl) | exact H.ldO (by assumption)) ?_ | refine ldT (by first | assumption | exact H.ld (by rfl) | exact H.ldM (by rfl) | exact H.ldM0 (by rfl) | exact H.ldO (by assumption)) ?_ | refine re1 (by first | assumption | exact H.ld (by rfl) | exact H.ldM (by rfl) | exact H.ldM0 (by rfl) | exact H.ldO (by assumption)) ?_ | fail) | (refine H.nw fun g_ H => ?_) | fail)
              refine H.ap1 (y := SampleD.mk s.at_ s.value) (by exact ⟨rfl, rfl, hs.1, hs.2⟩) (by omega) fun a2 c2 g2 H => ?_
              (first | refine ldI (by first | assumption | exact H.ld (by rfl) | exact H.ldM (by rfl) | exact H.ldM0 (by rfl) | exact H.ldO (by assumption)) ?_ | refine ldS (by first | assumption | exact H.ld (by rfl) | exact H.ldM (by rfl) | exact H.ldM0 (by rfl) | exact H.ldO (by assumption)) ?_ | refine ldB (by first | assumption | exact H.ld (by rfl) | exact H.ldM (by rfl) | exact H.ldM0 (by rfl) | exact H.ldO (by assumption)) ?_ | refine ldT (by first | assumption | exact H.ld (by rfl) | exact H.ldM (by rfl) | exact H.ldM0 (by rfl) | exact H.ldO (by assumption)) ?_ | refine re1 (by first | assumption | exact H.ld (by rfl) | exact H.ldM (by rfl) | exact H.ldM0 (by rfl) | exact H.ldO (by assumption)) ?_ | fail)
              refine ⟨b, o, rfl, by omega, by omega, ?_⟩
              refine H.stM (by simp) fun g3 H => ?_
              repeat' (first | (first | refine ldI (by first | assumption | exact H.ld (by rfl) | exact H.ldM (by rfl) | exact H.ldM0 (by rfl) | exact H.ldO (by assumption)) ?_ | refine ldS (by first | assumption | exact H.ld (by rfl) | exact H.ldM (by rfl) | exact H.ldM0 (by rfl) | exact H.ldO (by assumption)) ?_ | refine ldB (by first | assumption | exact H.ld (by rfl) | exact H.ldM (by rfl) | exact H.ldM0 (by rfl) | exact H.ldO (by assumption)) ?_ | refine ldT (by first | assumption | exact H.ld (by rfl) | exact H.ldM (by rfl) | exact H.ldM0 (by rfl) | exact H.ldO (by assumption)) ?_ | refine re1 (by first | assumption | exact H.ld (by rfl) | exact H.ldM (by rfl) | exact H.ldM0 (by rfl) | exact H.ldO (by assumption)) ?_ | fail) | (first | refine H.st (by simp) fun g_ H => ?_ | refine H.sts (by simp) fun g_ H => ?_ | fail) | fail)
              exact ⟨_, _, _, by rw [hT, hp], back _ _ a2 (ns + 1) c2 (by rw [hp]) (H.to (by repeat' (first | exact trivial | exact rfl | omega | (refine ⟨?_, ?_⟩))))⟩
      · rw [hc] at ht
        have hf := of_decide_eq_false ht.symm
        (first | refine ldI (by first | assumption | exact H.ld (by rfl) | exact H.ldM (by rfl) | exact H.ldM0 (by rfl) | exact H.ldO (by assumption)) ?_ | refine ldS (by first | assumption | exact H.ld (by rfl) | exact H.ldM (by rfl) | exact H.ldM0 (by rfl) | exact H.ldO (by assumption)) ?_ | refine ldB (by first | assumption | exact H.ld (by rfl) | exact H.ldM (by rfl) | exact H.ldM0 (by rfl) | exact H.ldO (by assumption)) ?_ | refine ldT (by first | assumption | exact H.ld (by rfl) | exact H.ldM (by rfl) | exact H.ldM0 (by rfl) | exact H.ldO (by assumption)) ?_ | refine re1 (by first | assumption | exact H.ld (by rfl) | exact H.ldM (by rfl) | exact H.ldM0 (by rfl) | exact H.ldO (by assumption)) ?_ | fail)
        (refine br (fun hc => ?_) (fun hc => ?_) <;> (try simp only [decide_eq_true_eq, decide_eq_false_iff_not, beq_iff_eq, bne_iff_ne, ne_eq, Bool.not_eq_true', Bool.not_eq_false', Bool.not_eq_true, Bool.not_eq_false, beq_eq_false_iff_ne, bne_eq_false_iff_eq, Int.not_lt, Int.not_le, gt_iff_lt, ge_iff_le, Decidable.not_not] at hc))
        · have hT : takeH x s = (⟨x.rows, x.offset + 1⟩, 4) := by unfold takeH; rw [if_neg hf, if_pos (by omega)]
          repeat' (first | (first | refine ldI (by first | assumption | exact H.ld (by rfl) | exact H.ldM (by rfl) | exact H.ldM0 (by rfl) | exact H.ldO (by assumption)) ?_ | refine ldS (by first | assumption | exact H.ld (by rfl) | exact H.ldM (by rfl) | exact H.ldM0 (by rfl) | exact H.ldO (by assumption)) ?_ | refine ldB (by first | assumption | exact H.ld (by rfl) | exact H.ldM (by rfl) | exact H.ldM0 (by rfl) | exact H.ldO (by assumption)) ?_ | refine ldT (by first | assumption | exact H.ld (by rfl) | exact H.ldM (by rfl) | exact H.ldM0 (by rfl) | exact H.ldO (by assumption)) ?_ | refine re1 (by first | assumption | exact H.ld (by rfl) | exact H.ldM (by rfl) | exact H.ldM0 (by rfl) | exact H.ldO (by assumption)) ?_ | fail) | (first | refine H.st (by simp) fun g_ H => ?_ | refine H.sts (by simp) fun g_ H => ?_ | fail) | fail)
          rw [hT]
          exact ⟨_, _, _, rfl, H.to (by repeat' (first | exact trivial | exact rfl | omega | (refine ⟨?_, ?_⟩)))⟩
        · have hT : takeH x s = (⟨x.rows.take (posD x.rows s.name) ++ ⟨s.name, [⟨s.at_, s.value⟩]⟩ :: x.rows.drop (posD x.rows s.name), x.offset + 1⟩, 1) := by unfold takeH; rw [if_neg hf, if_neg (by omega)]
          generalize posD x.rows s.name = k at *
          intro h67 e67
          have H := (H.made0 kRw).at e67
          (first | refine ldI (by first | assumption | exact H.ld (by rfl) | exact H.ldM (by rfl) | exact H.ldM0 (by rfl) | exact H.ldO (by assumption)) ?_ | refine ldS (by first | assumption | exact H.ld (by rfl) | exact H.ldM (by rfl) | exact H.ldM0 (by rfl) | exact H.ldO (by assumption)) ?_ | refine ldB (by first | assumption | exact H.ld (by rfl) | exact H.ldM (by rfl) | exact H.ldM0 (by rfl) | exact H.ldO (by assumption)) ?_ | refine ldT (by first | assumption | exact H.ld (by rfl) | exact H.ldM (by rfl) | exact H.ldM0 (by rfl) | exact H.ldO (by assumption)) ?_ | refine re1 (by first | assumption | exact H.ld (by rfl) | exact H.ldM (by rfl) | exact H.ldM0 (by rfl) | exact H.ldO (by assumption)) ?_ | fail)
          simp only [Int.toNat_natCast]
          refine ⟨by omega, by omega, by omega, ?_⟩
          obtain ⟨c1, c2, X, H, ha1, ha2, hX⟩ := (H.front a n c).cutAll (i := k) (by omega)
          have H := H.p1.p3
          have hcx := hX _ _ H m2
          refine Own.apEls (k := kRw) (ys := x.rows.take k) (news := c1) H ?_ (by omega) (fun h => by have := ha1 h; omega) hcx.1 rfl fun a2 c2' h69 H => ?_
          · rw [List.length_take]; omega
          rw [List.nil_append] at H
          rw [Nat.zero_add] at H ⊢
          repeat' (first | (first | refine ldI (by first | assumption | exact H.ld (by rfl) | exact H.ldM (by rfl) | exact H.ldM0 (by rfl) | exact H.ldO (by assumption)) ?_ | refine ldS (by first | assumption | exact H.ld (by rfl) | exact H.ldM (by rfl) | exact H.ldM0 (by rfl) | exact H.ldO (by assumption)) ?_ | refine ldB (by first | assumption | exact H.ld (by rfl) | exact H.ldM (by rfl) | exact H.ldM0 (by rfl) | exact H.ldO (by assumption)) ?_ | refine ldT (by first | assumption | exact H.ld (by rfl) | exact H.ldM (by rfl) | exact H.ldM0 (by rfl) | exact H.ldO (by assumption)) ?_ | refine re1 (by first | assumption | exact H.ld (by rfl) | exact H.ldM (by rfl) | exact H.ldM0 (by rfl) | exact H.ldO (by assumption)) ?_ | fail) | fail)
          refine H.nw fun h73 H => ?_
          have H : Own h73 (slA kSm [SampleD.mk s.at_ s.value] (some ⟨h69.size, 0, none⟩) 1 1 :: _) := Own.ofRow (k := kSm) (xs := [SampleD.mk s.at_ s.value]) (H.frontR h69.size) (Els.single ⟨rfl, rfl, hs⟩) (by simp)
          refine H.nw fun h74 H => ?_
          have H := Own.shutRow (t := ty_impl_Row) (RowD.mk s.name [SampleD.mk s.at_ s.value]) trivial (H.front (some ⟨h69.size, 0, none⟩) 1 1)
          refine H.apEl (by omega) fun a3 c3 h75 H => ?_
          repeat' (first | (first | refine ldI (by first | assumption | exact H.ld (by rfl) | exact H.ldM (by rfl) | exact H.ldM0 (by rfl) | exact H.ldO (by assumption)) ?_ | refine ldS (by first | assumption | exact H.ld (by rfl) | exact H.ldM (by rfl) | exact H.ldM0 (by rfl) | exact H.ldO (by assumption)) ?_ | refine ldB (by first | assumption | exact H.ld (by rfl) | exact H.ldM (by rfl) | exact H.ldM0 (by rfl) | exact H.ldO (by assumption)) ?_ | refine ldT (by first | assumption | exact H.ld (by rfl) | exact H.ldM (by rfl) | exact H.ldM0 (by rfl) | exact H.ldO (by assumption)) ?_ | refine re1 (by first | assumption | exact H.ld (by rfl) | exact H.ldM (by rfl) | exact H.ldM0 (by rfl) | exact H.ldO (by assumption)) ?_ | fail) | (first | refine arL (by first | omega | assumption) ?_ | refine arT (by first | omega | assumption) ?_ | refine arN (by first | omega | decide) ?_ | fail) | fail)
          have H := H.frontEls a3 (k + 1) c3 c2
          have hcx := hX _ _ H (by repeat (first | exact .head _ | apply List.Mem.tail))
          refine Own.apEls (k := kRw) (ys := x.rows.drop k) (news := c2) H ?_ (by omega) hcx.2.1 hcx.2.2 rfl fun a4 c4 h77 H => ?_
          · rw [List.length_drop]; omega
          refine H.st (by simp) fun h79 H => ?_
          repeat' (first | (first | refine ldI (by first | assumption | exact H.ld (by rfl) | exact H.ldM (by rfl) | exact H.ldM0 (by rfl) | exact H.ldO (by assumption)) ?_ | refine ldS (by first | assumption | exact H.ld (by rfl) | exact H.ldM (by rfl) | exact H.ldM0 (by rfl) | exact H.ldO (by assumption)) ?_ | refine ldB (by first | assumption | exact H.ld (by rfl) | exact H.ldM (by rfl) | exact H.ldM0 (by rfl) | exact H.ldO (by assumption)) ?_ | refine ldT (by first | assumption | exact H.ld (by rfl) | exact H.ldM (by rfl) | exact H.ldM0 (by rfl) | exact H.ldO (by assumption)) ?_ | refine re1 (by first | assumption | exact H.ld (by rfl) | exact H.ldM (by rfl) | exact H.ldM0 (by rfl) | exact H.ldO (by assumption)) ?_ | fail) | (first | refine H.st (by simp) fun g_ H => ?_ | refine H.sts (by simp) fun g_ H => ?_ | fail) | fail)
          rw [hT]
          have e5 : x.rows.take k ++ [RowD.mk s.name [⟨s.at_, s.value⟩]] ++ x.rows.drop k = x.rows.take k ++ RowD.mk s.name [⟨s.at_, s.value⟩] :: x.rows.drop k := by simp
          rw [e5] at H
          exact ⟨_, _, _, rfl, H.to (by repeat' (first | exact trivial | exact rfl | omega | (refine ⟨?_, ?_⟩)))⟩
    (first | refine ldI (by first | assumption | exact H.ld (by rfl) | exact H.ldM (by rfl) | exact H.ldM0 (by rfl) | exact H.ldO (by assumption)) ?_ | refine ldS (by first | assumption | exact H.ld (by rfl) | exact H.ldM (by rfl) | exact H.ldM0 (by rfl) | exact H.ldO (by assumption)) ?_ | refine ldB (by first | assumption | exact H.ld (by rfl) | exact H.ldM (by rfl) | exact H.ldM0 (by rfl) | exact H.ldO (by assumption)) ?_ | refine ldT (by first | assumption | exact H.ld (by rfl) | exact H.ldM (by rfl) | exact H.ldM0 (by rfl) | exact H.ldO (by assumption)) ?_ | refine re1 (by first | assumption | exact H.ld (by rfl) | exact H.ldM (by rfl) | exact H.ldM0 (by rfl) | exact H.ldO (by assumption)) ?_ | fail)
    (refine br (fun hc => ?_) (fun hc => ?_) <;> (try simp only [decide_eq_true_eq, decide_eq_false_iff_not, beq_iff_eq, bne_iff_ne, ne_eq, Bool.not_eq_true', Bool.not_eq_false', Bool.not_eq_true, Bool.not_eq_false, beq_eq_false_iff_ne, bne_eq_false_iff_eq, Int.not_lt, Int.not_le, gt_iff_lt, ge_iff_le, Decidable.not_not] at hc))
    · have hk : posD x.rows s.name < n := by omega
      (first | refine ldI (by first | assumption | exact H.ld (by rfl) | exact H.ldM (by rfl) | exact H.ldM0 (by rfl) | exact H.ldO (by assumption)) ?_ | refine ldS (by first | assumption | exact H.ld (by rfl) | exact H.ldM (by rfl) | exact H.ldM0 (by rfl) | exact H.ldO (by assumption)) ?_ | refine ldB (by first | assumption | exact H.ld (by rfl) | exact H.ldM (by rfl) | exact H.ldM0 (by rfl) | exact H.ldO (by assumption)) ?_ | refine ldT (by first | assumption | exact H.ld (by rfl) | exact H.ldM (by rfl) | exact H.ldM0 (by rfl) | exact H.ldO (by assumption)) ?_ | refine re1 (by first | assumption | exact H.ld (by rfl) | exact H.ldM (by rfl) | exact H.ldM0 (by rfl) | exact H.ldO (by assumption)) ?_ | fail)
      have r := H.rd a n c
      refine r.nxRow hk fun b o a' n' c' f1 f2 ok s' l' => ?_
      (first | refine ldI (by first | assumption | exact H.ld (by rfl) | exact H.ldM (by rfl) | exact H.ldM0 (by rfl) | exact H.ldO (by assumption)) ?_ | refine ldS (by first | assumption | exact H.ld (by rfl) | exact H.ldM (by rfl) | exact H.ldM0 (by rfl) | exact H.ldO (by assumption)) ?_ | refine ldB (by first | assumption | exact H.ld (by rfl) | exact H.ldM (by rfl) | exact H.ldM0 (by rfl) | exact H.ldO (by assumption)) ?_ | refine ldT (by first | assumption | exact H.ld (by rfl) | exact H.ldM (by rfl) | exact H.ldM0 (by rfl) | exact H.ldO (by assumption)) ?_ | refine re1 (by first | assumption | exact H.ld (by rfl) | exact H.ldM (by rfl) | exact H.ldM0 (by rfl) | exact H.ldO (by assumption)) ?_ | fail)
      (first | refine ldI (by first | assumption | exact H.ld (by rfl) | exact H.ldM (by rfl) | exact H.ldM0 (by rfl) | exact H.ldO (by assumption)) ?_ | refine ldS (by first | assumption | exact H.ld (by rfl) | exact H.ldM (by rfl) | exact H.ldM0 (by rfl) | exact H.ldO (by assumption)) ?_ | refine ldB (by first | assumption | exact H.ld (by rfl) | exact H.ldM (by rfl) | exact H.ldM0 (by rfl) | exact H.ldO (by assumption)) ?_ | refine ldT (by first | assumption | exact H.ld (by rfl) | exact H.ldM (by rfl) | exact H.ldM0 (by rfl) | exact H.ldO (by assumption)) ?_ | refine re1 (by first | assumption | exact H.ld (by rfl) | exact H.ldM (by rfl) | exact H.ldM0 (by rfl) | exact H.ldO (by assumption)) ?_ | fail)
      refine fin19 _ ?_
      rw [toList_beq, Bool.eq_iff_iff]
      simp; omega
    · refine fin19 _ ?_
      have : ¬ posD x.rows s.name < x.rows.length := by omega
      simp [this]
  refine ⟨fun vs g => ∃ i : Nat, i ≤ n ∧ vs = [.int .i64 (i : Int)] ∧ Own g (rowA h.size ty_impl_Head [.slice a n c, .int .i64 (x.offset + 1)] :: slA kRw x.rows a n c :: rowA h6.size ty_impl_Say [.string s.name, .int .i64 s.at_, .int .i64 s.value] :: rowA h7.size ty_impl_Head [.slice none 0 0, .int .i64 0] :: L) ∧
    (∀ t, t < i → blt (x.rows.getD t default).name s.name = true), UpM n, ⟨0, by omega, rfl, H.to (by repeat' (first | exact trivial | exact rfl | omega | (refine ⟨?_, ?_⟩))), fun t ht => by omega⟩, ?_⟩
  rintro g y ⟨i, hi, hv, H, lo⟩
  simp at hv
  subst hv
  (first | refine ldI (by first | assumption | exact H.ld (by rfl) | exact H.ldM (by rfl) | exact H.ldM0 (by rfl) | exact H.ldO (by assumption)) ?_ | refine ldS (by first | assumption | exact H.ld (by rfl) | exact H.ldM (by rfl) | exact H.ldM0 (by rfl) | exact H.ldO (by assumption)) ?_ | refine ldB (by first | assumption | exact H.ld (by rfl) | exact H.ldM (by rfl) | exact H.ldM0 (by rfl) | exact H.ldO (by assumption)) ?_ | refine ldT (by first | assumption | exact H.ld (by rfl) | exact H.ldM (by rfl) | exact H.ldM0 (by rfl) | exact H.ldO (by assumption)) ?_ | refine re1 (by first | assumption | exact H.ld (by rfl) | exact H.ldM (by rfl) | exact H.ldM0 (by rfl) | exact H.ldO (by assumption)) ?_ | fail)
  (refine br (fun hc => ?_) (fun hc => ?_) <;> (try simp only [decide_eq_true_eq, decide_eq_false_iff_not, beq_iff_eq, bne_iff_ne, ne_eq, Bool.not_eq_true', Bool.not_eq_false', Bool.not_eq_true, Bool.not_eq_false, beq_eq_false_iff_ne, bne_eq_false_iff_eq, Int.not_lt, Int.not_le, gt_iff_lt, ge_iff_le, Decidable.not_not] at hc))
  · have hi : i < n := by omega
    (first | refine ldI (by first | assumption | exact H.ld (by rfl) | exact H.ldM (by rfl) | exact H.ldM0 (by rfl) | exact H.ldO (by assumption)) ?_ | refine ldS (by first | assumption | exact H.ld (by rfl) | exact H.ldM (by rfl) | exact H.ldM0 (by rfl) | exact H.ldO (by assumption)) ?_ | refine ldB (by first | assumption | exact H.ld (by rfl) | exact H.ldM (by rfl) | exact H.ldM0 (by rfl) | exact H.ldO (by assumption)) ?_ | refine ldT (by first | assumption | exact H.ld (by rfl) | exact H.ldM (by rfl) | exact H.ldM0 (by rfl) | exact H.ldO (by assumption)) ?_ | refine re1 (by first | assumption | exact H.ld (by rfl) | exact H.ldM (by rfl) | exact H.ldM0 (by rfl) | exact H.ldO (by assumption)) ?_ | fail)
    have r := H.rd a n c
    refine r.nxRow hi fun b o a' n' c' f1 f2 ok s' l' => ?_
    (first | refine ldI (by first | assumption | exact H.ld (by rfl) | exact H.ldM (by rfl) | exact H.ldM0 (by rfl) | exact H.ldO (by assumption)) ?_ | refine ldS (by first | assumption | exact H.ld (by rfl) | exact H.ldM (by rfl) | exact H.ldM0 (by rfl) | exact H.ldO (by assumption)) ?_ | refine ldB (by first | assumption | exact H.ld (by rfl) | exact H.ldM (by rfl) | exact H.ldM0 (by rfl) | exact H.ldO (by assumption)) ?_ | refine ldT (by first | assumption | exact H.ld (by rfl) | exact H.ldM (by rfl) | exact H.ldM0 (by rfl) | exact H.ldO (by assumption)) ?_ | refine re1 (by first | assumption | exact H.ld (by rfl) | exact H.ldM (by rfl) | exact H.ldM0 (by rfl) | exact H.ldO (by assumption)) ?_ | fail)
    (first | refine ldI (by first | assumption | exact H.ld (by rfl) | exact H.ldM (by rfl) | exact H.ldM0 (by rfl) | exact H.ldO (by assumption)) ?_ | refine ldS (by first | assumption | exact H.ld (by rfl) | exact H.ldM (by rfl) | exact H.ldM0 (by rfl) | exact H.ldO (by assumption)) ?_ | refine ldB (by first | assumption | exact H.ld (by rfl) | exact H.ldM (by rfl) | exact H.ldM0 (by rfl) | exact H.ldO (by assumption)) ?_ | refine ldT (by first | assumption | exact H.ld (by rfl) | exact H.ldM (by rfl) | exact H.ldM0 (by rfl) | exact H.ldO (by assumption)) ?_ | refine re1 (by first | assumption | exact H.ld (by rfl) | exact H.ldM (by rfl) | exact H.ldM0 (by rfl) | exact H.ldO (by assumption)) ?_ | fail)
    refine br (fun hb => ?_) (fun hb => ?_)
    · rw [wrap_succ (by omega)]
      refine ⟨⟨i + 1, by omega, rfl, H, fun t ht => ?_⟩, by simp [UpM, ivOf]; omega⟩
      by_cases hti : t = i
      · rw [hti]; exact hb
      · exact lo t (by omega)
    · have hpos : i = posD x.rows s.name := posD_uniq (by omega) lo fun _ => hb
      rw [hpos]
      exact fin g H
  · have hpos : i = posD x.rows s.name := posD_uniq (by omega) lo fun hl => by omega
    rw [hpos]
    exact fin g H
end
end Go.Proofs.Ytjmhahjmbmiepaa.D
