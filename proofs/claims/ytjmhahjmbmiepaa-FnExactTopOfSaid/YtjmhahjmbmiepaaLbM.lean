/- Texts of labels: strings.Join at short lists; the same text built by both packages. -/
import Derived.Test.YtjmhahjmbmiepaaSepI
import Derived.Test.YtjmhahjmbmiepaaKdC
import Derived.Test.YtjmhahjmbmiepaaMh
import Derived.Test.YtjmhahjmbmiepaaJnS
import Derived.Test.YtjmhahjmbmiepaaHdA
import Derived.Test.YtjmhahjmbmiepaaHdB
import Derived.Test.YtjmhahjmbmiepaaSoM
namespace Go.Proofs.Ytjmhahjmbmiepaa.D
open Go
set_option linter.unusedVariables false
set_option linter.unusedSimpArgs false

abbrev kLb : Kind LabelD := kLabel ty_impl_Label
abbrev kTt : Kind TotalD := kTotal ty_impl_Total
abbrev kS : Kind ByteArray := kStr ty_string
def partL (x : LabelD) : ByteArray := (x.name ++ (⟨⟨[61]⟩⟩ : ByteArray)) ++ x.value
/-- The text of the first i labels, open at its end. -/
def txF (l : List LabelD) : Nat → ByteArray
  | 0 => ⟨⟨[123]⟩⟩
  | i + 1 => (if i = 0 then txF l i else txF l i ++ (⟨⟨[44]⟩⟩ : ByteArray)) ++ partL (l.getD i default)
def textL (l : List LabelD) : ByteArray := txF l l.length ++ (⟨⟨[125]⟩⟩ : ByteArray)
/-- A label of short words. -/
def LbS (x : LabelD) : Prop := x.name.size ≤ 8 ∧ x.value.size ≤ 8
theorem partL_size {x : LabelD} (h : LbS x) : (partL x).size ≤ 17 := by
  unfold partL
  rw [ByteArray.size_append, ByteArray.size_append]
  have : (⟨⟨[61]⟩⟩ : ByteArray).size = 1 := rfl
  unfold LbS at h
  omega
theorem txF_size {l : List LabelD} (h : ∀ x ∈ l, LbS x) : ∀ i, i ≤ l.length → (txF l i).size ≤ 1 + 18 * i
  | 0, _ => by show (1 : Nat) ≤ _; omega
  | i + 1, hi => by
    have h1 := txF_size h i (by omega)
    have h2 := partL_size (h (l.getD i default) (by rw [getD_of default (show i < l.length by omega)]; exact List.getElem_mem _))
    have h3 : (⟨⟨[44]⟩⟩ : ByteArray).size = 1 := rfl
    unfold txF
    rw [ByteArray.size_append]
    split
    · omega
    · rw [ByteArray.size_append]; omega
theorem join_snoc (xs : List (List UInt8)) (y sep : List UInt8) : Lib.join (xs ++ [y]) sep = if xs = [] then y else Lib.join xs sep ++ sep ++ y := by
  cases xs with
  | nil => simp [Lib.join_one]
  | cons x r =>
    rw [List.cons_append, Lib.join_cons, Lib.join_cons]
    simp [Lib.joinTail, List.append_assoc]
def partsL (l : List LabelD) : List ByteArray := l.map partL
theorem txF_join {l : List LabelD} : ∀ i, i ≤ l.length → (txF l i).data.toList = 123 :: Lib.join ((partsL (l.take i)).map (·.data.toList)) [44]
  | 0, _ => rfl
  | i + 1, hi => by
    have ih := txF_join (l := l) i (by omega)
    rw [← takeSnoc default (show i < l.length by omega)]
    unfold partsL
    rw [List.map_append, List.map_append, List.map_cons, List.map_nil, List.map_cons, List.map_nil, join_snoc]
    have he : ((List.map partL (l.take i)).map (·.data.toList) = []) ↔ i = 0 := by
      rw [List.map_eq_nil_iff, List.map_eq_nil_iff, List.take_eq_nil_iff]
      constructor
      · rintro (h | h)
        · exact h
        · rw [h] at hi; simp at hi
      · exact fun h => .inl h
    unfold txF
    by_cases h0 : i = 0
    · rw [if_pos h0, if_pos (he.2 h0)]
      subst h0
      simp [txF, ByteArray.data_append]
    · rw [if_neg h0, if_neg (fun h => h0 (he.1 h))]
      simp only [ByteArray.data_append, Array.toList_append, ih]
      simp [partsL, List.append_assoc]
theorem partsL_get {l : List LabelD} {i : Nat} (hi : i < l.length) : (partsL l).getD i ByteArray.empty = partL (l.getD i default) := by
  rw [getD_of _ (by simpa [partsL] using hi), getD_of _ hi]
  simp [partsL]
theorem txF_all (l : List LabelD) : (⟨⟨[123]⟩⟩ : ByteArray) ++ (⟨(Lib.join ((partsL l).map (·.data.toList)) [44]).toArray⟩ : ByteArray) = txF l l.length := by
  apply bytes_inj
  rw [txF_join _ (Nat.le_refl _), List.take_length]
  simp [ByteArray.data_append]

section
variable {h : Heap} {L : List Asn}
theorem join_ok {xs : List ByteArray} {a : Option Addr} {n c : Nat} {sep : ByteArray} (r : SlR kS h xs a n c) (hl : (Lib.join (xs.map (·.data.toList)) sep.data.toList).length ≤ 140737488355328) (hn : n ≤ 140737488355328) :
    CallsH PP fn_strings_Join [.slice a n c, .string sep] h fun v h' => v = .string ⟨(Lib.join (xs.map (·.data.toList)) sep.data.toList).toArray⟩ ∧ Ext h h' := by
  intro w hw
  have ln := r.len
  by_cases h0 : n = 0
  · have hx : xs = [] := List.length_eq_zero_iff.1 (by omega)
    subst h0 hx
    refine (Try.strings_Join_none a c sep w).mono ?_
    rintro e w' ⟨rfl, rfl⟩
    exact ⟨_, rfl, Same.refl _, rfl, by rw [hw]; exact Frm.refl _ _⟩
  · obtain ⟨b, o, ha, _, _, hc0⟩ := r.nxStr (i := 0) (G := fun b o => cellAt h b o = some (.string (xs.getD 0 ByteArray.empty))) (by omega) fun b o h => h
    subst ha
    have cells : ∀ (j : Nat) x, xs[j]? = some x → w.cell? ⟨b, o + j, none⟩ = some (.string x) := fun j x hx => by
      obtain ⟨hj, hjx⟩ := List.getElem?_eq_some_iff.1 hx
      obtain ⟨b', o', ha', _, _, hc⟩ := r.nxStr (i := j) (G := fun b o => cellAt h b (o + j) = some (.string (xs.getD j ByteArray.empty))) (by omega) fun b o h => h
      injection ha' with ha'
      injection ha' with e1 e2 _
      subst e1 e2
      rw [cell?_eq, hw, hc, getD_of _ hj, hjx]
    have hb : b < w.heap.size := by
      rw [hw]
      unfold cellAt at hc0
      rcases Nat.lt_or_ge b h.size with hlt | hge
      · exact hlt
      · rw [Array.getElem?_eq_none hge] at hc0; cases hc0
    have hk := Try.strings_Join b o c xs sep w cells hb (by omega) (by omega) hl
    rw [← ln.1] at hk
    refine hk.mono ?_
    rintro e w' ⟨rfl, bl⟩
    refine ⟨_, rfl, ⟨bl.os, bl.tape, bl.output⟩, rfl, ?_⟩
    refine ⟨by rw [← hw]; exact bl.size, fun k hk _ => ?_⟩
    rw [← hw]; exact bl.block k (by rw [hw]; exact hk)
theorem labelsText_ok {l : List LabelD} {a : Option Addr} {n c : Nat} (r : SlR kLb h l a n c) (hn : n ≤ 6) (hs : ∀ x ∈ l, LbS x) : CallsH PP fn_impl_labelsText [.slice a n c] h fun v h' => v = .string (textL l) ∧ Ext h h' := by
  refine calls_impl_labelsText _ _ _ ?_
  unfold M_impl_labelsText
  have ln := r.len
  have H := Own.start h
  refine ⟨by omega, by omega, by omega, by omega, ?_⟩
  intro h2 e2
  have H := (H.made kS ByteArray.empty (fun g => ⟨rfl, rfl⟩) (m := n) (by omega)).at e2
  refine ⟨UpI n fun i g => Own g [slA kS ((partsL l).take i ++ List.replicate (n - i) ByteArray.empty) (some ⟨h.size, 0, none⟩) n n, oldA h], UpM n, UpI.start (by simpa using H), ?_⟩
  intro g y hI
  obtain ⟨i, hi, rfl, H⟩ := hI.elim
  (refine br (fun hc => ?_) (fun hc => ?_) <;> (try simp only [decide_eq_true_eq, decide_eq_false_iff_not, beq_iff_eq, bne_iff_ne, ne_eq, Bool.not_eq_true', Bool.not_eq_false', Bool.not_eq_true, Bool.not_eq_false, beq_eq_false_iff_ne, bne_eq_false_iff_eq, Int.not_lt, Int.not_le, gt_iff_lt, ge_iff_le, Decidable.not_not] at hc))
  · have hi : i < n := by omega
    have hS := hs (l.getD i default) (by rw [getD_of default (show i < l.length by omega)]; exact List.getElem_mem _)
    have z1 : (⟨⟨[61]⟩⟩ : ByteArray).size = 1 := rfl
    obtain ⟨u1, u2⟩ := hS
    refine r.nxLabel hi fun b o f1 f2 ok => ?_
    repeat' (first | (first | refine ldI (by first | assumption | exact H.ld (by rfl) | exact H.ldO (by assumption)) ?_ | refine ldS (by first | assumption | exact H.ld (by rfl) | exact H.ldO (by assumption)) ?_ | refine ldB (by first | assumption | exact H.ld (by rfl) | exact H.ldO (by assumption)) ?_ | refine ldT (by first | assumption | exact H.ld (by rfl) | exact H.ldO (by assumption)) ?_ | refine re1 (by first | assumption | exact H.ld (by rfl) | exact H.ldO (by assumption)) ?_ | fail) | (refine H.nw fun g_ H => ?_) | (first | refine H.st (by simp) fun g_ H => ?_ | refine H.sts (by simp) fun g_ H => ?_ | fail) | fail)
    refine ⟨by omega, ?_⟩
    (first | refine ldI (by first | assumption | exact H.ld (by rfl) | exact H.ldO (by assumption)) ?_ | refine ldS (by first | assumption | exact H.ld (by rfl) | exact H.ldO (by assumption)) ?_ | refine ldB (by first | assumption | exact H.ld (by rfl) | exact H.ldO (by assumption)) ?_ | refine ldT (by first | assumption | exact H.ld (by rfl) | exact H.ldO (by assumption)) ?_ | refine re1 (by first | assumption | exact H.ld (by rfl) | exact H.ldO (by assumption)) ?_ | fail)
    refine ⟨by rw [ByteArray.size_append]; omega, by omega, by omega, ?_⟩
    simp only [Int.toNat_natCast]
    refine H.setOne (k := kS) (y := (partsL l).getD i ByteArray.empty) (fun h => h.2) hi (fun h => ⟨by rw [partsL_get (by omega)]; rfl, rfl⟩) fun g3 H => ?_
    rw [fillSet ByteArray.empty (by simp [partsL]; omega) hi] at H
    exact UpI.next (by omega) hi (H.to (by repeat' (first | exact trivial | exact rfl | omega | (refine ⟨?_, ?_⟩))))
  · have hin : i = n := by omega
    rw [hin, List.take_of_length_le (by simp [partsL]; omega), Nat.sub_self, List.replicate_zero, List.append_nil] at H
    have hjn := txF_join (l := l) l.length (Nat.le_refl _)
    rw [List.take_length] at hjn
    have hsz := txF_size hs l.length (Nat.le_refl _)
    have hjl : (Lib.join ((partsL l).map (·.data.toList)) [44]).length + 1 = (txF l l.length).size := by
      have := congrArg List.length hjn
      simp only [List.length_cons] at this
      rw [← this]; rfl
    refine (join_ok (H.rd _ n n) (sep := ⟨⟨[44]⟩⟩) (by show (Lib.join _ [44]).length ≤ _; omega) (by omega)).mono ?_
    rintro v g2 ⟨rfl, f⟩
    have H := H.ext f
    have e : (⟨⟨[123]⟩⟩ : ByteArray) ++ (⟨(Lib.join ((partsL l).map (·.data.toList)) (⟨⟨[44]⟩⟩ : ByteArray).data.toList).toArray⟩ : ByteArray) = txF l l.length := txF_all l
    refine ⟨_, rfl, ?_, ?_, ?_⟩
    · have := congrArg ByteArray.size e
      rw [ByteArray.size_append] at this
      omega
    · rw [e]
      have : (⟨⟨[125]⟩⟩ : ByteArray).size = 1 := rfl
      omega
    · rw [e]; exact ⟨rfl, H.oldE⟩
theorem l3Text_ok {l : List LabelD} {a : Option Addr} {n c : Nat} (r : SlR kLb h l a n c) (hn : n ≤ 6) (hs : ∀ x ∈ l, LbS x) : CallsH PP fn_spec_l3Text [.slice a n c] h fun v h' => v = .string (textL l) ∧ Ext h h' := by
  refine calls_spec_l3Text _ _ _ ?_
  unfold M_spec_l3Text
  have ln := r.len
  refine ⟨fun vs g => ∃ i : Nat, i ≤ n ∧ vs = [.string (txF l i), .int .i64 i] ∧ Own g [oldA h], fun vs _ => n - (ivOf vs 1).toNat, ⟨0, by omega, rfl, Own.start h⟩, ?_⟩
  rintro g s1 x1 ⟨i, hi, hv, H⟩
  simp at hv
  obtain ⟨rfl, rfl⟩ := hv
  have hsz := txF_size hs i (by omega)
  have z1 : (⟨⟨[61]⟩⟩ : ByteArray).size = 1 := rfl
  have z2 : (⟨⟨[44]⟩⟩ : ByteArray).size = 1 := rfl
  have z3 : (⟨⟨[125]⟩⟩ : ByteArray).size = 1 := rfl
  (refine br (fun hc => ?_) (fun hc => ?_) <;> (try simp only [decide_eq_true_eq, decide_eq_false_iff_not, beq_iff_eq, bne_iff_ne, ne_eq, Bool.not_eq_true', Bool.not_eq_false', Bool.not_eq_true, Bool.not_eq_false, beq_eq_false_iff_ne, bne_eq_false_iff_eq, Int.not_lt, Int.not_le, gt_iff_lt, ge_iff_le, Decidable.not_not] at hc))
  · have hi : i < n := by omega
    have hS := hs (l.getD i default) (by rw [getD_of default (show i < l.length by omega)]; exact List.getElem_mem _)
    obtain ⟨u1, u2⟩ := hS
    refine r.nxLabel hi fun b o f1 f2 ok => ?_
    (first | refine ldI (by first | assumption | exact H.ld (by rfl) | exact H.ldO (by assumption)) ?_ | refine ldS (by first | assumption | exact H.ld (by rfl) | exact H.ldO (by assumption)) ?_ | refine ldB (by first | assumption | exact H.ld (by rfl) | exact H.ldO (by assumption)) ?_ | refine ldT (by first | assumption | exact H.ld (by rfl) | exact H.ldO (by assumption)) ?_ | refine re1 (by first | assumption | exact H.ld (by rfl) | exact H.ldO (by assumption)) ?_ | fail)
    (first | refine ldI (by first | assumption | exact H.ld (by rfl) | exact H.ldO (by assumption)) ?_ | refine ldS (by first | assumption | exact H.ld (by rfl) | exact H.ldO (by assumption)) ?_ | refine ldB (by first | assumption | exact H.ld (by rfl) | exact H.ldO (by assumption)) ?_ | refine ldT (by first | assumption | exact H.ld (by rfl) | exact H.ldO (by assumption)) ?_ | refine re1 (by first | assumption | exact H.ld (by rfl) | exact H.ldO (by assumption)) ?_ | fail)
    refine H.nw fun g3 H => ?_
    refine H.sts (by simp) fun g4 H => ?_
    intro K hK
    have key : ∀ s : ByteArray, s = (if i = 0 then txF l i else txF l i ++ (⟨⟨[44]⟩⟩ : ByteArray)) → s.size ≤ 200 → K [.string s] g4 := by
      intro s hs2 hs3
      refine hK _ _ ?_
      (first | refine ldI (by first | assumption | exact H.ld (by rfl) | exact H.ldO (by assumption)) ?_ | refine ldS (by first | assumption | exact H.ld (by rfl) | exact H.ldO (by assumption)) ?_ | refine ldB (by first | assumption | exact H.ld (by rfl) | exact H.ldO (by assumption)) ?_ | refine ldT (by first | assumption | exact H.ld (by rfl) | exact H.ldO (by assumption)) ?_ | refine re1 (by first | assumption | exact H.ld (by rfl) | exact H.ldO (by assumption)) ?_ | fail)
      refine ⟨by omega, ?_⟩
      (first | refine ldI (by first | assumption | exact H.ld (by rfl) | exact H.ldO (by assumption)) ?_ | refine ldS (by first | assumption | exact H.ld (by rfl) | exact H.ldO (by assumption)) ?_ | refine ldB (by first | assumption | exact H.ld (by rfl) | exact H.ldO (by assumption)) ?_ | refine ldT (by first | assumption | exact H.ld (by rfl) | exact H.ldO (by assumption)) ?_ | refine re1 (by first | assumption | exact H.ld (by rfl) | exact H.ldO (by assumption)) ?_ | fail)
      refine ⟨by rw [ByteArray.size_append]; omega, by rw [ByteArray.size_append, ByteArray.size_append]; omega, ?_⟩
      rw [wrap_succ (by omega)]
      refine ⟨⟨i + 1, by omega, ?_, H.to (by repeat' (first | exact trivial | exact rfl | omega | (refine ⟨?_, ?_⟩)))⟩, ?_⟩
      · rw [hs2]; rfl
      · simp [ivOf]; omega
    (refine br (fun hc => ?_) (fun hc => ?_) <;> (try simp only [decide_eq_true_eq, decide_eq_false_iff_not, beq_iff_eq, bne_iff_ne, ne_eq, Bool.not_eq_true', Bool.not_eq_false', Bool.not_eq_true, Bool.not_eq_false, beq_eq_false_iff_ne, bne_eq_false_iff_eq, Int.not_lt, Int.not_le, gt_iff_lt, ge_iff_le, Decidable.not_not] at hc))
    · refine ⟨by omega, key _ (by rw [if_neg (by omega)]) (by rw [ByteArray.size_append]; omega)⟩
    · exact key _ (by rw [if_pos (by omega)]) (by omega)
  · have hin : i = l.length := by omega
    subst hin
    exact ⟨by omega, rfl, H.oldE⟩
end
end Go.Proofs.Ytjmhahjmbmiepaa.D

namespace Go.Proofs.Ytjmhahjmbmiepaa.D
open Go
set_option linter.unusedVariables false
set_option linter.unusedSimpArgs false

def lblOk (x : LabelD) : Bool := wordOk false x.name && wordOk true x.value
def lbsAt (l : List LabelD) (i : Nat) : Bool := lblOk (l.getD i default) && (decide (i = 0) || blt (l.getD (i - 1) default).name (l.getD i default).name)
def lbsOk (l : List LabelD) : Bool := (List.range l.length).all (lbsAt l) && decide (l.length ≤ 6)
def totAt (l : List TotalD) (i : Nat) : Bool := lbsOk (l.getD i default).labels && (inR (l.getD i default).count 1 1000 && (inR (l.getD i default).sum (-1000000000) 1000000000 && (inR (l.getD i default).least (-1000000) (l.getD i default).most &&
  (!(decide ((l.getD i default).most > 1000000)) && (decide (i = 0) || blt (textL (l.getD (i - 1) default).labels) (textL (l.getD i default).labels))))))
def totsOk (l : List TotalD) : Bool := (List.range l.length).all (totAt l) && decide (l.length ≤ 40)
theorem rng_no {p : Nat → Bool} {n i : Nat} {b : Bool} (hi : i < n) (h : p i = false) : ((List.range n).all p && b) = false := by
  rw [Bool.and_eq_false_iff]
  left
  rw [List.all_eq_false]
  exact ⟨i, by simpa using hi, by simp [h]⟩
theorem rng_all {p : Nat → Bool} {n : Nat} {b : Bool} (h : ∀ j, j < n → p j = true) : ((List.range n).all p && b) = b := by
  have : (List.range n).all p = true := by
    rw [List.all_eq_true]
    exact fun j hj => h j (by simpa using hj)
  rw [this, Bool.true_and]
theorem lbs_short {l : List LabelD} (h : lbsOk l = true) : l.length ≤ 6 ∧ ∀ x ∈ l, LbS x := by
  unfold lbsOk at h
  simp only [Bool.and_eq_true, List.all_eq_true, decide_eq_true_eq] at h
  refine ⟨h.2, fun x hx => ?_⟩
  obtain ⟨i, hi, rfl⟩ := List.getElem_of_mem hx
  have := h.1 i (by simpa using hi)
  unfold lbsAt lblOk at this
  simp only [Bool.and_eq_true] at this
  obtain ⟨⟨h1, h2⟩, _⟩ := this
  rw [getD_of _ hi] at h1 h2
  unfold wordOk at h1 h2
  simp only [Bool.and_eq_true, inR_iff] at h1 h2
  exact ⟨by omega, by omega⟩
/-- Labels that are texts of a machine's size. -/
def LbZ (x : LabelD) : Prop := x.name.size < 4611686018427387904 ∧ x.value.size < 4611686018427387904
theorem memG {α : Type} {l : List α} {i : Nat} {P : α → Prop} (d : α) (h : ∀ x ∈ l, P x) (hi : i < l.length) : P (l.getD i d) := by
  rw [getD_of d hi]; exact h _ (List.getElem_mem _)

section
variable {h : Heap} {L : List Asn}
theorem isLabel_ok {x : LabelD} (hz : LbZ x) : CallsH PP fn_impl_isLabel [.agg ⟨x.cells⟩] h fun v h' => v = .bool (lblOk x) ∧ Ext h h' := by
  refine calls_impl_isLabel _ _ ?_
  unfold M_impl_isLabel
  have H := Own.start h
  (refine H.nw fun g_ H => ?_)
  (first | refine ldI (by first | assumption | exact H.ld (by rfl) | exact H.ldO (by assumption)) ?_ | refine ldS (by first | assumption | exact H.ld (by rfl) | exact H.ldO (by assumption)) ?_ | refine ldB (by first | assumption | exact H.ld (by rfl) | exact H.ldO (by assumption)) ?_ | refine ldT (by first | assumption | exact H.ld (by rfl) | exact H.ldO (by assumption)) ?_ | refine re1 (by first | assumption | exact H.ld (by rfl) | exact H.ldO (by assumption)) ?_ | fail)
  refine (isWord_ok _ _ hz.1).mono ?_
  rintro v g ⟨rfl, rfl⟩
  refine ⟨_, rfl, ?_⟩
  (refine br (fun hc => ?_) (fun hc => ?_) <;> (try simp only [decide_eq_true_eq, decide_eq_false_iff_not, beq_iff_eq, bne_iff_ne, ne_eq, Bool.not_eq_true', Bool.not_eq_false', Bool.not_eq_true, Bool.not_eq_false, beq_eq_false_iff_ne, bne_eq_false_iff_eq, Int.not_lt, Int.not_le, gt_iff_lt, ge_iff_le, Decidable.not_not] at hc))
  · (first | refine ldI (by first | assumption | exact H.ld (by rfl) | exact H.ldO (by assumption)) ?_ | refine ldS (by first | assumption | exact H.ld (by rfl) | exact H.ldO (by assumption)) ?_ | refine ldB (by first | assumption | exact H.ld (by rfl) | exact H.ldO (by assumption)) ?_ | refine ldT (by first | assumption | exact H.ld (by rfl) | exact H.ldO (by assumption)) ?_ | refine re1 (by first | assumption | exact H.ld (by rfl) | exact H.ldO (by assumption)) ?_ | fail)
    refine (isWord_ok _ _ hz.2).mono ?_
    rintro v g2 ⟨rfl, rfl⟩
    exact ⟨_, rfl, by simp [lblOk, hc], H.oldE⟩
  · exact ⟨by simp [lblOk, hc], H.oldE⟩
theorem areLabels_ok {l : List LabelD} {a : Option Addr} {n c : Nat} (r : SlR kLb h l a n c) (hz : ∀ x ∈ l, LbZ x) : CallsH PP fn_impl_areLabels [.slice a n c] h fun v h' => v = .bool (lbsOk l) ∧ Ext h h' := by
  refine calls_impl_areLabels _ _ _ ?_
  unfold M_impl_areLabels
  have ln := r.len
  refine ⟨UpI n fun i g => Own g [oldA h] ∧ ∀ j, j < i → lbsAt l j = true, UpM n, UpI.start ⟨Own.start h, fun j hj => by omega⟩, ?_⟩
  intro g y hI
  obtain ⟨i, hi, rfl, H, hp⟩ := hI.elim
  (refine br (fun hc => ?_) (fun hc => ?_) <;> (try simp only [decide_eq_true_eq, decide_eq_false_iff_not, beq_iff_eq, bne_iff_ne, ne_eq, Bool.not_eq_true', Bool.not_eq_false', Bool.not_eq_true, Bool.not_eq_false, beq_eq_false_iff_ne, bne_eq_false_iff_eq, Int.not_lt, Int.not_le, gt_iff_lt, ge_iff_le, Decidable.not_not] at hc))
  · have hi : i < n := by omega
    have no : lbsAt l i = false → Value.bool false = .bool (lbsOk l) := fun hx => by unfold lbsOk; rw [rng_no (by omega) hx]
    have hzi := memG default hz (show i < l.length by omega)
    refine r.nxLabel hi fun b o f1 f2 ok => ?_
    repeat' (first | (first | refine ldI (by first | assumption | exact H.ld (by rfl) | exact H.ldO (by assumption)) ?_ | refine ldS (by first | assumption | exact H.ld (by rfl) | exact H.ldO (by assumption)) ?_ | refine ldB (by first | assumption | exact H.ld (by rfl) | exact H.ldO (by assumption)) ?_ | refine ldT (by first | assumption | exact H.ld (by rfl) | exact H.ldO (by assumption)) ?_ | refine re1 (by first | assumption | exact H.ld (by rfl) | exact H.ldO (by assumption)) ?_ | fail) | (refine H.nw fun g_ H => ?_) | (first | refine H.st (by simp) fun g_ H => ?_ | refine H.sts (by simp) fun g_ H => ?_ | fail) | fail)
    refine (isLabel_ok (x := l.getD i default) hzi).mono ?_
    rintro v g2 ⟨rfl, f⟩
    have H := H.ext f
    refine ⟨_, rfl, ?_⟩
    (refine br (fun hc => ?_) (fun hc => ?_) <;> (try simp only [decide_eq_true_eq, decide_eq_false_iff_not, beq_iff_eq, bne_iff_ne, ne_eq, Bool.not_eq_true', Bool.not_eq_false', Bool.not_eq_true, Bool.not_eq_false, beq_eq_false_iff_ne, bne_eq_false_iff_eq, Int.not_lt, Int.not_le, gt_iff_lt, ge_iff_le, Decidable.not_not] at hc))
    · have ho := hc
      (refine br (fun hc => ?_) (fun hc => ?_) <;> (try simp only [decide_eq_true_eq, decide_eq_false_iff_not, beq_iff_eq, bne_iff_ne, ne_eq, Bool.not_eq_true', Bool.not_eq_false', Bool.not_eq_true, Bool.not_eq_false, beq_eq_false_iff_ne, bne_eq_false_iff_eq, Int.not_lt, Int.not_le, gt_iff_lt, ge_iff_le, Decidable.not_not] at hc))
      · have e1 : IntKind.i64.wrap ((i : Int) - 1) = ((i - 1 : Nat) : Int) := by rw [wrap64_of (by omega) (by omega)]; omega
        rw [e1]
        simp only [Int.toNat_natCast]
        refine r.nxLabel (i := i - 1) (by omega) fun b o f1 f2 ok => ?_
        repeat' (first | (first | refine ldI (by first | assumption | exact H.ld (by rfl) | exact H.ldO (by assumption)) ?_ | refine ldS (by first | assumption | exact H.ld (by rfl) | exact H.ldO (by assumption)) ?_ | refine ldB (by first | assumption | exact H.ld (by rfl) | exact H.ldO (by assumption)) ?_ | refine ldT (by first | assumption | exact H.ld (by rfl) | exact H.ldO (by assumption)) ?_ | refine re1 (by first | assumption | exact H.ld (by rfl) | exact H.ldO (by assumption)) ?_ | fail) | fail)
        have h0 : i ≠ 0 := by omega
        (refine br (fun hc => ?_) (fun hc => ?_) <;> (try simp only [decide_eq_true_eq, decide_eq_false_iff_not, beq_iff_eq, bne_iff_ne, ne_eq, Bool.not_eq_true', Bool.not_eq_false', Bool.not_eq_true, Bool.not_eq_false, beq_eq_false_iff_ne, bne_eq_false_iff_eq, Int.not_lt, Int.not_le, gt_iff_lt, ge_iff_le, Decidable.not_not] at hc))
        · exact ⟨no (by simp only [lbsAt, blt, hc, h0, decide_false, Bool.or_false, Bool.and_false]), H.oldE⟩
        · refine UpI.next (by omega) hi ⟨H.to (by repeat' (first | exact trivial | exact rfl | omega | (refine ⟨?_, ?_⟩))), fun j hj => ?_⟩
          by_cases hji : j = i
          · rw [hji]; simp only [lbsAt, blt, ho, hc, Bool.or_true, Bool.and_true]
          · exact hp j (by omega)
      · have h0 : i = 0 := by omega
        refine UpI.next (by omega) hi ⟨H.to (by repeat' (first | exact trivial | exact rfl | omega | (refine ⟨?_, ?_⟩))), fun j hj => ?_⟩
        by_cases hji : j = i
        · rw [hji]; simp only [lbsAt, ho, h0, decide_true, Bool.true_or, Bool.and_true]; rw [← ho, h0]
        · exact hp j (by omega)
    · exact ⟨no (by simp only [lbsAt, hc, Bool.false_and]), H.oldE⟩
  · have hin : i = l.length := by omega
    subst hin
    refine ⟨?_, H.oldE⟩
    unfold lbsOk
    rw [rng_all hp]
    congr 1
    rw [Bool.eq_iff_iff]; simp; omega
theorem GoodLabels_ok {l : List LabelD} {a : Option Addr} {n c : Nat} (r : SlR kLb h l a n c) (hz : ∀ x ∈ l, LbZ x) : CallsH PP fn_spec_GoodLabels [.slice a n c] h fun v h' => v = .bool (lbsOk l) ∧ Ext h h' := by
  refine calls_spec_GoodLabels _ _ _ ?_
  unfold M_spec_GoodLabels
  have ln := r.len
  refine ⟨UpI n fun i g => Own g [oldA h] ∧ ∀ j, j < i → lbsAt l j = true, UpM n, UpI.start ⟨Own.start h, fun j hj => by omega⟩, ?_⟩
  intro g y hI
  obtain ⟨i, hi, rfl, H, hp⟩ := hI.elim
  (refine br (fun hc => ?_) (fun hc => ?_) <;> (try simp only [decide_eq_true_eq, decide_eq_false_iff_not, beq_iff_eq, bne_iff_ne, ne_eq, Bool.not_eq_true', Bool.not_eq_false', Bool.not_eq_true, Bool.not_eq_false, beq_eq_false_iff_ne, bne_eq_false_iff_eq, Int.not_lt, Int.not_le, gt_iff_lt, ge_iff_le, Decidable.not_not] at hc))
  · have hi : i < n := by omega
    have no : lbsAt l i = false → Value.bool false = .bool (lbsOk l) := fun hx => by unfold lbsOk; rw [rng_no (by omega) hx]
    have hzi := memG default hz (show i < l.length by omega)
    refine r.nxLabel hi fun b o f1 f2 ok => ?_
    repeat' (first | (first | refine ldI (by first | assumption | exact H.ld (by rfl) | exact H.ldO (by assumption)) ?_ | refine ldS (by first | assumption | exact H.ld (by rfl) | exact H.ldO (by assumption)) ?_ | refine ldB (by first | assumption | exact H.ld (by rfl) | exact H.ldO (by assumption)) ?_ | refine ldT (by first | assumption | exact H.ld (by rfl) | exact H.ldO (by assumption)) ?_ | refine re1 (by first | assumption | exact H.ld (by rfl) | exact H.ldO (by assumption)) ?_ | fail) | (refine H.nw fun g_ H => ?_) | (first | refine H.st (by simp) fun g_ H => ?_ | refine H.sts (by simp) fun g_ H => ?_ | fail) | fail)
    refine (l3Name_ok _ _ hzi.1).mono ?_
    rintro v g2 ⟨rfl, rfl⟩
    refine ⟨_, rfl, ?_⟩
    (refine br (fun hc => ?_) (fun hc => ?_) <;> (try simp only [decide_eq_true_eq, decide_eq_false_iff_not, beq_iff_eq, bne_iff_ne, ne_eq, Bool.not_eq_true', Bool.not_eq_false', Bool.not_eq_true, Bool.not_eq_false, beq_eq_false_iff_ne, bne_eq_false_iff_eq, Int.not_lt, Int.not_le, gt_iff_lt, ge_iff_le, Decidable.not_not] at hc))
    · have h1 := hc
      repeat' (first | (first | refine ldI (by first | assumption | exact H.ld (by rfl) | exact H.ldO (by assumption)) ?_ | refine ldS (by first | assumption | exact H.ld (by rfl) | exact H.ldO (by assumption)) ?_ | refine ldB (by first | assumption | exact H.ld (by rfl) | exact H.ldO (by assumption)) ?_ | refine ldT (by first | assumption | exact H.ld (by rfl) | exact H.ldO (by assumption)) ?_ | refine re1 (by first | assumption | exact H.ld (by rfl) | exact H.ldO (by assumption)) ?_ | fail) | fail)
      refine (l3Name_ok _ _ hzi.2).mono ?_
      rintro v g3 ⟨rfl, rfl⟩
      refine ⟨_, rfl, ?_⟩
      (refine br (fun hc => ?_) (fun hc => ?_) <;> (try simp only [decide_eq_true_eq, decide_eq_false_iff_not, beq_iff_eq, bne_iff_ne, ne_eq, Bool.not_eq_true', Bool.not_eq_false', Bool.not_eq_true, Bool.not_eq_false, beq_eq_false_iff_ne, bne_eq_false_iff_eq, Int.not_lt, Int.not_le, gt_iff_lt, ge_iff_le, Decidable.not_not] at hc))
      · have ho : lblOk (l.getD i default) = true := by simp only [lblOk, h1, hc, Bool.and_true]
        (refine br (fun hc => ?_) (fun hc => ?_) <;> (try simp only [decide_eq_true_eq, decide_eq_false_iff_not, beq_iff_eq, bne_iff_ne, ne_eq, Bool.not_eq_true', Bool.not_eq_false', Bool.not_eq_true, Bool.not_eq_false, beq_eq_false_iff_ne, bne_eq_false_iff_eq, Int.not_lt, Int.not_le, gt_iff_lt, ge_iff_le, Decidable.not_not] at hc))
        · have e1 : IntKind.i64.wrap ((i : Int) - 1) = ((i - 1 : Nat) : Int) := by rw [wrap64_of (by omega) (by omega)]; omega
          rw [e1]
          simp only [Int.toNat_natCast]
          refine r.nxLabel (i := i - 1) (by omega) fun b o f1 f2 ok => ?_
          repeat' (first | (first | refine ldI (by first | assumption | exact H.ld (by rfl) | exact H.ldO (by assumption)) ?_ | refine ldS (by first | assumption | exact H.ld (by rfl) | exact H.ldO (by assumption)) ?_ | refine ldB (by first | assumption | exact H.ld (by rfl) | exact H.ldO (by assumption)) ?_ | refine ldT (by first | assumption | exact H.ld (by rfl) | exact H.ldO (by assumption)) ?_ | refine re1 (by first | assumption | exact H.ld (by rfl) | exact H.ldO (by assumption)) ?_ | fail) | fail)
          have h0 : i ≠ 0 := by omega
          (refine br (fun hc => ?_) (fun hc => ?_) <;> (try simp only [decide_eq_true_eq, decide_eq_false_iff_not, beq_iff_eq, bne_iff_ne, ne_eq, Bool.not_eq_true', Bool.not_eq_false', Bool.not_eq_true, Bool.not_eq_false, beq_eq_false_iff_ne, bne_eq_false_iff_eq, Int.not_lt, Int.not_le, gt_iff_lt, ge_iff_le, Decidable.not_not] at hc))
          · exact ⟨no (by simp only [lbsAt, blt, hc, h0, decide_false, Bool.or_false, Bool.and_false]), H.oldE⟩
          · refine UpI.next (by omega) hi ⟨H.to (by repeat' (first | exact trivial | exact rfl | omega | (refine ⟨?_, ?_⟩))), fun j hj => ?_⟩
            by_cases hji : j = i
            · rw [hji]; simp only [lbsAt, blt, ho, hc, Bool.or_true, Bool.and_true]
            · exact hp j (by omega)
        · have h0 : i = 0 := by omega
          refine UpI.next (by omega) hi ⟨H.to (by repeat' (first | exact trivial | exact rfl | omega | (refine ⟨?_, ?_⟩))), fun j hj => ?_⟩
          by_cases hji : j = i
          · rw [hji]; simp only [lbsAt, ho, h0, decide_true, Bool.true_or, Bool.and_true]; rw [← ho, h0]
          · exact hp j (by omega)
      · exact ⟨no (by simp only [lbsAt, lblOk, hc, Bool.and_false, Bool.false_and]), H.oldE⟩
    · exact ⟨no (by simp only [lbsAt, lblOk, hc, Bool.false_and]), H.oldE⟩
  · have hin : i = l.length := by omega
    subst hin
    refine ⟨?_, H.oldE⟩
    unfold lbsOk
    rw [rng_all hp]
    congr 1
    rw [Bool.eq_iff_iff]; simp; omega

/-- Totals whose labels are texts of a machine's size. -/
def TtZ (x : TotalD) : Prop := ∀ y ∈ x.labels, LbZ y
theorem totAt_lbs {l : List TotalD} {i : Nat} (h : totAt l i = true) : lbsOk (l.getD i default).labels = true := by
  unfold totAt at h
  simp only [Bool.and_eq_true] at h
  exact h.1
theorem areTotals_ok {l : List TotalD} {a : Option Addr} {n c : Nat} (r : SlR kTt h l a n c) (hz : ∀ x ∈ l, TtZ x) : CallsH PP fn_impl_areTotals [.slice a n c] h fun v h' => v = .bool (totsOk l) ∧ Ext h h' := by
  refine calls_impl_areTotals _ _ _ ?_
  unfold M_impl_areTotals
  have ln := r.len
  refine ⟨UpI n fun i g => Own g [oldA h] ∧ ∀ j, j < i → totAt l j = true, UpM n, UpI.start ⟨Own.start h, fun j hj => by omega⟩, ?_⟩
  intro g y hI
  obtain ⟨i, hi, rfl, H, hp⟩ := hI.elim
  (refine br (fun hc => ?_) (fun hc => ?_) <;> (try simp only [decide_eq_true_eq, decide_eq_false_iff_not, beq_iff_eq, bne_iff_ne, ne_eq, Bool.not_eq_true', Bool.not_eq_false', Bool.not_eq_true, Bool.not_eq_false, beq_eq_false_iff_ne, bne_eq_false_iff_eq, Int.not_lt, Int.not_le, gt_iff_lt, ge_iff_le, Decidable.not_not] at hc))
  · have hi : i < n := by omega
    have no : totAt l i = false → Value.bool false = .bool (totsOk l) := fun hx => by unfold totsOk; rw [rng_no (by omega) hx]
    have hzi := memG default hz (show i < l.length by omega)
    refine r.nxTotal hi fun b o a1 n1 c1 f1 f2 f3 f4 f5 ok s1 l1 => ?_
    repeat' (first | (first | refine ldI (by first | assumption | exact H.ld (by rfl) | exact H.ldO (by assumption)) ?_ | refine ldS (by first | assumption | exact H.ld (by rfl) | exact H.ldO (by assumption)) ?_ | refine ldB (by first | assumption | exact H.ld (by rfl) | exact H.ldO (by assumption)) ?_ | refine ldT (by first | assumption | exact H.ld (by rfl) | exact H.ldO (by assumption)) ?_ | refine re1 (by first | assumption | exact H.ld (by rfl) | exact H.ldO (by assumption)) ?_ | fail) | (refine H.nw fun g_ H => ?_) | (first | refine H.st (by simp) fun g_ H => ?_ | refine H.sts (by simp) fun g_ H => ?_ | fail) | fail)
    refine (areLabels_ok (s1.ext H.oldE) hzi).mono ?_
    rintro v g2 ⟨rfl, f⟩
    have H := H.ext f
    refine ⟨_, rfl, ?_⟩
    (refine br (fun hc => ?_) (fun hc => ?_) <;> (try simp only [decide_eq_true_eq, decide_eq_false_iff_not, beq_iff_eq, bne_iff_ne, ne_eq, Bool.not_eq_true', Bool.not_eq_false', Bool.not_eq_true, Bool.not_eq_false, beq_eq_false_iff_ne, bne_eq_false_iff_eq, Int.not_lt, Int.not_le, gt_iff_lt, ge_iff_le, Decidable.not_not] at hc))
    rotate_left
    · exact ⟨no (by simp only [totAt, hc, Bool.false_and]), H.oldE⟩
    have h1 := hc
    (first | refine ldI (by first | assumption | exact H.ld (by rfl) | exact H.ldO (by assumption)) ?_ | refine ldS (by first | assumption | exact H.ld (by rfl) | exact H.ldO (by assumption)) ?_ | refine ldB (by first | assumption | exact H.ld (by rfl) | exact H.ldO (by assumption)) ?_ | refine ldT (by first | assumption | exact H.ld (by rfl) | exact H.ldO (by assumption)) ?_ | refine re1 (by first | assumption | exact H.ld (by rfl) | exact H.ldO (by assumption)) ?_ | fail)
    ((refine (within_ok _ _ _).mono ?_; rintro v_ g_ ⟨rfl, rfl⟩; refine ⟨_, rfl, ?_⟩))
    (refine br (fun hc => ?_) (fun hc => ?_) <;> (try simp only [decide_eq_true_eq, decide_eq_false_iff_not, beq_iff_eq, bne_iff_ne, ne_eq, Bool.not_eq_true', Bool.not_eq_false', Bool.not_eq_true, Bool.not_eq_false, beq_eq_false_iff_ne, bne_eq_false_iff_eq, Int.not_lt, Int.not_le, gt_iff_lt, ge_iff_le, Decidable.not_not] at hc))
    rotate_left
    · exact ⟨no (by simp only [totAt, hc, Bool.false_and, Bool.and_false]), H.oldE⟩
    have h2 := hc
    (first | refine ldI (by first | assumption | exact H.ld (by rfl) | exact H.ldO (by assumption)) ?_ | refine ldS (by first | assumption | exact H.ld (by rfl) | exact H.ldO (by assumption)) ?_ | refine ldB (by first | assumption | exact H.ld (by rfl) | exact H.ldO (by assumption)) ?_ | refine ldT (by first | assumption | exact H.ld (by rfl) | exact H.ldO (by assumption)) ?_ | refine re1 (by first | assumption | exact H.ld (by rfl) | exact H.ldO (by assumption)) ?_ | fail)
    ((refine (within_ok _ _ _).mono ?_; rintro v_ g_ ⟨rfl, rfl⟩; refine ⟨_, rfl, ?_⟩))
    (refine br (fun hc => ?_) (fun hc => ?_) <;> (try simp only [decide_eq_true_eq, decide_eq_false_iff_not, beq_iff_eq, bne_iff_ne, ne_eq, Bool.not_eq_true', Bool.not_eq_false', Bool.not_eq_true, Bool.not_eq_false, beq_eq_false_iff_ne, bne_eq_false_iff_eq, Int.not_lt, Int.not_le, gt_iff_lt, ge_iff_le, Decidable.not_not] at hc))
    rotate_left
    · exact ⟨no (by simp only [totAt, hc, Bool.false_and, Bool.and_false]), H.oldE⟩
    have h3 := hc
    (first | refine ldI (by first | assumption | exact H.ld (by rfl) | exact H.ldO (by assumption)) ?_ | refine ldS (by first | assumption | exact H.ld (by rfl) | exact H.ldO (by assumption)) ?_ | refine ldB (by first | assumption | exact H.ld (by rfl) | exact H.ldO (by assumption)) ?_ | refine ldT (by first | assumption | exact H.ld (by rfl) | exact H.ldO (by assumption)) ?_ | refine re1 (by first | assumption | exact H.ld (by rfl) | exact H.ldO (by assumption)) ?_ | fail)
    (first | refine ldI (by first | assumption | exact H.ld (by rfl) | exact H.ldO (by assumption)) ?_ | refine ldS (by first | assumption | exact H.ld (by rfl) | exact H.ldO (by assumption)) ?_ | refine ldB (by first | assumption | exact H.ld (by rfl) | exact H.ldO (by assumption)) ?_ | refine ldT (by first | assumption | exact H.ld (by rfl) | exact H.ldO (by assumption)) ?_ | refine re1 (by first | assumption | exact H.ld (by rfl) | exact H.ldO (by assumption)) ?_ | fail)
    ((refine (within_ok _ _ _).mono ?_; rintro v_ g_ ⟨rfl, rfl⟩; refine ⟨_, rfl, ?_⟩))
    (refine br (fun hc => ?_) (fun hc => ?_) <;> (try simp only [decide_eq_true_eq, decide_eq_false_iff_not, beq_iff_eq, bne_iff_ne, ne_eq, Bool.not_eq_true', Bool.not_eq_false', Bool.not_eq_true, Bool.not_eq_false, beq_eq_false_iff_ne, bne_eq_false_iff_eq, Int.not_lt, Int.not_le, gt_iff_lt, ge_iff_le, Decidable.not_not] at hc))
    rotate_left
    · exact ⟨no (by simp only [totAt, hc, Bool.false_and, Bool.and_false]), H.oldE⟩
    have h4 := hc
    (first | refine ldI (by first | assumption | exact H.ld (by rfl) | exact H.ldO (by assumption)) ?_ | refine ldS (by first | assumption | exact H.ld (by rfl) | exact H.ldO (by assumption)) ?_ | refine ldB (by first | assumption | exact H.ld (by rfl) | exact H.ldO (by assumption)) ?_ | refine ldT (by first | assumption | exact H.ld (by rfl) | exact H.ldO (by assumption)) ?_ | refine re1 (by first | assumption | exact H.ld (by rfl) | exact H.ldO (by assumption)) ?_ | fail)
    (refine br (fun hc => ?_) (fun hc => ?_) <;> (try simp only [decide_eq_true_eq, decide_eq_false_iff_not, beq_iff_eq, bne_iff_ne, ne_eq, Bool.not_eq_true', Bool.not_eq_false', Bool.not_eq_true, Bool.not_eq_false, beq_eq_false_iff_ne, bne_eq_false_iff_eq, Int.not_lt, Int.not_le, gt_iff_lt, ge_iff_le, Decidable.not_not] at hc))
    rotate_left
    · have h5 : decide ((l.getD i default).most > 1000000) = true := decide_eq_true (by omega)
      exact ⟨no (by simp only [totAt, h5, Bool.not_true, Bool.false_and, Bool.and_false]), H.oldE⟩
    have h5 : decide ((l.getD i default).most > 1000000) = false := decide_eq_false (by omega)
    (refine br (fun hc => ?_) (fun hc => ?_) <;> (try simp only [decide_eq_true_eq, decide_eq_false_iff_not, beq_iff_eq, bne_iff_ne, ne_eq, Bool.not_eq_true', Bool.not_eq_false', Bool.not_eq_true, Bool.not_eq_false, beq_eq_false_iff_ne, bne_eq_false_iff_eq, Int.not_lt, Int.not_le, gt_iff_lt, ge_iff_le, Decidable.not_not] at hc))
    · have e1 : IntKind.i64.wrap ((i : Int) - 1) = ((i - 1 : Nat) : Int) := by rw [wrap64_of (by omega) (by omega)]; omega
      rw [e1]
      simp only [Int.toNat_natCast]
      have hq := lbs_short (totAt_lbs (hp (i - 1) (by omega)))
      have hq1 := lbs_short h1
      refine r.nxTotal (i := i - 1) (by omega) fun b o a2 n2 c2 e1 e2 e3 e4 e5 ok2 s2 l2 => ?_
      repeat' (first | (first | refine ldI (by first | assumption | exact H.ld (by rfl) | exact H.ldO (by assumption)) ?_ | refine ldS (by first | assumption | exact H.ld (by rfl) | exact H.ldO (by assumption)) ?_ | refine ldB (by first | assumption | exact H.ld (by rfl) | exact H.ldO (by assumption)) ?_ | refine ldT (by first | assumption | exact H.ld (by rfl) | exact H.ldO (by assumption)) ?_ | refine re1 (by first | assumption | exact H.ld (by rfl) | exact H.ldO (by assumption)) ?_ | fail) | fail)
      refine (labelsText_ok (s2.ext H.oldE) (by omega) hq.2).mono ?_
      rintro v g3 ⟨rfl, f⟩
      have H := H.ext f
      refine ⟨_, rfl, ?_⟩
      repeat' (first | (first | refine ldI (by first | assumption | exact H.ld (by rfl) | exact H.ldO (by assumption)) ?_ | refine ldS (by first | assumption | exact H.ld (by rfl) | exact H.ldO (by assumption)) ?_ | refine ldB (by first | assumption | exact H.ld (by rfl) | exact H.ldO (by assumption)) ?_ | refine ldT (by first | assumption | exact H.ld (by rfl) | exact H.ldO (by assumption)) ?_ | refine re1 (by first | assumption | exact H.ld (by rfl) | exact H.ldO (by assumption)) ?_ | fail) | fail)
      refine (labelsText_ok (s1.ext H.oldE) (by omega) hq1.2).mono ?_
      rintro v g4 ⟨rfl, f⟩
      have H := H.ext f
      refine ⟨_, rfl, ?_⟩
      repeat' (first | (first | refine ldI (by first | assumption | exact H.ld (by rfl) | exact H.ldO (by assumption)) ?_ | refine ldS (by first | assumption | exact H.ld (by rfl) | exact H.ldO (by assumption)) ?_ | refine ldB (by first | assumption | exact H.ld (by rfl) | exact H.ldO (by assumption)) ?_ | refine ldT (by first | assumption | exact H.ld (by rfl) | exact H.ldO (by assumption)) ?_ | refine re1 (by first | assumption | exact H.ld (by rfl) | exact H.ldO (by assumption)) ?_ | fail) | fail)
      have h0 : i ≠ 0 := by omega
      (refine br (fun hc => ?_) (fun hc => ?_) <;> (try simp only [decide_eq_true_eq, decide_eq_false_iff_not, beq_iff_eq, bne_iff_ne, ne_eq, Bool.not_eq_true', Bool.not_eq_false', Bool.not_eq_true, Bool.not_eq_false, beq_eq_false_iff_ne, bne_eq_false_iff_eq, Int.not_lt, Int.not_le, gt_iff_lt, ge_iff_le, Decidable.not_not] at hc))
      · exact ⟨no (by simp only [totAt, blt, hc, h0, decide_false, Bool.or_false, Bool.and_false]), H.oldE⟩
      · refine UpI.next (by omega) hi ⟨H.to (by repeat' (first | exact trivial | exact rfl | omega | (refine ⟨?_, ?_⟩))), fun j hj => ?_⟩
        by_cases hji : j = i
        · rw [hji]; simp only [totAt, blt, h1, h2, h3, h4, h5, hc, Bool.or_true, Bool.and_true, Bool.not_false]
        · exact hp j (by omega)
    · have h0 : i = 0 := by omega
      refine UpI.next (by omega) hi ⟨H.to (by repeat' (first | exact trivial | exact rfl | omega | (refine ⟨?_, ?_⟩))), fun j hj => ?_⟩
      by_cases hji : j = i
      · rw [hji]; simp only [totAt, h1, h2, h3, h4, h5, decide_eq_true h0, Bool.true_or, Bool.and_true, Bool.not_false]
      · exact hp j (by omega)
  · have hin : i = l.length := by omega
    subst hin
    refine ⟨?_, H.oldE⟩
    unfold totsOk
    rw [rng_all hp]
    congr 1
    rw [Bool.eq_iff_iff]; simp; omega
theorem GoodTotals_ok {l : List TotalD} {a : Option Addr} {n c : Nat} (r : SlR kTt h l a n c) (hz : ∀ x ∈ l, TtZ x) : CallsH PP fn_spec_GoodTotals [.slice a n c] h fun v h' => v = .bool (totsOk l) ∧ Ext h h' := by
  refine calls_spec_GoodTotals _ _ _ ?_
  unfold M_spec_GoodTotals
  have ln := r.len
  refine ⟨UpI n fun i g => Own g [oldA h] ∧ ∀ j, j < i → totAt l j = true, UpM n, UpI.start ⟨Own.start h, fun j hj => by omega⟩, ?_⟩
  intro g y hI
  obtain ⟨i, hi, rfl, H, hp⟩ := hI.elim
  (refine br (fun hc => ?_) (fun hc => ?_) <;> (try simp only [decide_eq_true_eq, decide_eq_false_iff_not, beq_iff_eq, bne_iff_ne, ne_eq, Bool.not_eq_true', Bool.not_eq_false', Bool.not_eq_true, Bool.not_eq_false, beq_eq_false_iff_ne, bne_eq_false_iff_eq, Int.not_lt, Int.not_le, gt_iff_lt, ge_iff_le, Decidable.not_not] at hc))
  · have hi : i < n := by omega
    have no : totAt l i = false → Value.bool false = .bool (totsOk l) := fun hx => by unfold totsOk; rw [rng_no (by omega) hx]
    have hzi := memG default hz (show i < l.length by omega)
    refine r.nxTotal hi fun b o a1 n1 c1 f1 f2 f3 f4 f5 ok s1 l1 => ?_
    repeat' (first | (first | refine ldI (by first | assumption | exact H.ld (by rfl) | exact H.ldO (by assumption)) ?_ | refine ldS (by first | assumption | exact H.ld (by rfl) | exact H.ldO (by assumption)) ?_ | refine ldB (by first | assumption | exact H.ld (by rfl) | exact H.ldO (by assumption)) ?_ | refine ldT (by first | assumption | exact H.ld (by rfl) | exact H.ldO (by assumption)) ?_ | refine re1 (by first | assumption | exact H.ld (by rfl) | exact H.ldO (by assumption)) ?_ | fail) | (refine H.nw fun g_ H => ?_) | (first | refine H.st (by simp) fun g_ H => ?_ | refine H.sts (by simp) fun g_ H => ?_ | fail) | fail)
    refine (GoodLabels_ok (s1.ext H.oldE) hzi).mono ?_
    rintro v g2 ⟨rfl, f⟩
    have H := H.ext f
    refine ⟨_, rfl, ?_⟩
    (refine br (fun hc => ?_) (fun hc => ?_) <;> (try simp only [decide_eq_true_eq, decide_eq_false_iff_not, beq_iff_eq, bne_iff_ne, ne_eq, Bool.not_eq_true', Bool.not_eq_false', Bool.not_eq_true, Bool.not_eq_false, beq_eq_false_iff_ne, bne_eq_false_iff_eq, Int.not_lt, Int.not_le, gt_iff_lt, ge_iff_le, Decidable.not_not] at hc))
    rotate_left
    · exact ⟨no (by simp only [totAt, hc, Bool.false_and]), H.oldE⟩
    have h1 := hc
    (first | refine ldI (by first | assumption | exact H.ld (by rfl) | exact H.ldO (by assumption)) ?_ | refine ldS (by first | assumption | exact H.ld (by rfl) | exact H.ldO (by assumption)) ?_ | refine ldB (by first | assumption | exact H.ld (by rfl) | exact H.ldO (by assumption)) ?_ | refine ldT (by first | assumption | exact H.ld (by rfl) | exact H.ldO (by assumption)) ?_ | refine re1 (by first | assumption | exact H.ld (by rfl) | exact H.ldO (by assumption)) ?_ | fail)
    ((refine (l1In_ok _ _ _).mono ?_; rintro v_ g_ ⟨rfl, rfl⟩; refine ⟨_, rfl, ?_⟩))
    (refine br (fun hc => ?_) (fun hc => ?_) <;> (try simp only [decide_eq_true_eq, decide_eq_false_iff_not, beq_iff_eq, bne_iff_ne, ne_eq, Bool.not_eq_true', Bool.not_eq_false', Bool.not_eq_true, Bool.not_eq_false, beq_eq_false_iff_ne, bne_eq_false_iff_eq, Int.not_lt, Int.not_le, gt_iff_lt, ge_iff_le, Decidable.not_not] at hc))
    rotate_left
    · exact ⟨no (by simp only [totAt, hc, Bool.false_and, Bool.and_false]), H.oldE⟩
    have h2 := hc
    (first | refine ldI (by first | assumption | exact H.ld (by rfl) | exact H.ldO (by assumption)) ?_ | refine ldS (by first | assumption | exact H.ld (by rfl) | exact H.ldO (by assumption)) ?_ | refine ldB (by first | assumption | exact H.ld (by rfl) | exact H.ldO (by assumption)) ?_ | refine ldT (by first | assumption | exact H.ld (by rfl) | exact H.ldO (by assumption)) ?_ | refine re1 (by first | assumption | exact H.ld (by rfl) | exact H.ldO (by assumption)) ?_ | fail)
    ((refine (l1In_ok _ _ _).mono ?_; rintro v_ g_ ⟨rfl, rfl⟩; refine ⟨_, rfl, ?_⟩))
    (refine br (fun hc => ?_) (fun hc => ?_) <;> (try simp only [decide_eq_true_eq, decide_eq_false_iff_not, beq_iff_eq, bne_iff_ne, ne_eq, Bool.not_eq_true', Bool.not_eq_false', Bool.not_eq_true, Bool.not_eq_false, beq_eq_false_iff_ne, bne_eq_false_iff_eq, Int.not_lt, Int.not_le, gt_iff_lt, ge_iff_le, Decidable.not_not] at hc))
    rotate_left
    · exact ⟨no (by simp only [totAt, hc, Bool.false_and, Bool.and_false]), H.oldE⟩
    have h3 := hc
    (first | refine ldI (by first | assumption | exact H.ld (by rfl) | exact H.ldO (by assumption)) ?_ | refine ldS (by first | assumption | exact H.ld (by rfl) | exact H.ldO (by assumption)) ?_ | refine ldB (by first | assumption | exact H.ld (by rfl) | exact H.ldO (by assumption)) ?_ | refine ldT (by first | assumption | exact H.ld (by rfl) | exact H.ldO (by assumption)) ?_ | refine re1 (by first | assumption | exact H.ld (by rfl) | exact H.ldO (by assumption)) ?_ | fail)
    (first | refine ldI (by first | assumption | exact H.ld (by rfl) | exact H.ldO (by assumption)) ?_ | refine ldS (by first | assumption | exact H.ld (by rfl) | exact H.ldO (by assumption)) ?_ | refine ldB (by first | assumption | exact H.ld (by rfl) | exact H.ldO (by assumption)) ?_ | refine ldT (by first | assumption | exact H.ld (by rfl) | exact H.ldO (by assumption)) ?_ | refine re1 (by first | assumption | exact H.ld (by rfl) | exact H.ldO (by assumption)) ?_ | fail)
    ((refine (l1In_ok _ _ _).mono ?_; rintro v_ g_ ⟨rfl, rfl⟩; refine ⟨_, rfl, ?_⟩))
    (refine br (fun hc => ?_) (fun hc => ?_) <;> (try simp only [decide_eq_true_eq, decide_eq_false_iff_not, beq_iff_eq, bne_iff_ne, ne_eq, Bool.not_eq_true', Bool.not_eq_false', Bool.not_eq_true, Bool.not_eq_false, beq_eq_false_iff_ne, bne_eq_false_iff_eq, Int.not_lt, Int.not_le, gt_iff_lt, ge_iff_le, Decidable.not_not] at hc))
    rotate_left
    · exact ⟨no (by simp only [totAt, hc, Bool.false_and, Bool.and_false]), H.oldE⟩
    have h4 := hc
    (first | refine ldI (by first | assumption | exact H.ld (by rfl) | exact H.ldO (by assumption)) ?_ | refine ldS (by first | assumption | exact H.ld (by rfl) | exact H.ldO (by assumption)) ?_ | refine ldB (by first | assumption | exact H.ld (by rfl) | exact H.ldO (by assumption)) ?_ | refine ldT (by first | assumption | exact H.ld (by rfl) | exact H.ldO (by assumption)) ?_ | refine re1 (by first | assumption | exact H.ld (by rfl) | exact H.ldO (by assumption)) ?_ | fail)
    (refine br (fun hc => ?_) (fun hc => ?_) <;> (try simp only [decide_eq_true_eq, decide_eq_false_iff_not, beq_iff_eq, bne_iff_ne, ne_eq, Bool.not_eq_true', Bool.not_eq_false', Bool.not_eq_true, Bool.not_eq_false, beq_eq_false_iff_ne, bne_eq_false_iff_eq, Int.not_lt, Int.not_le, gt_iff_lt, ge_iff_le, Decidable.not_not] at hc))
    rotate_left
    · have h5 : decide ((l.getD i default).most > 1000000) = true := decide_eq_true (by omega)
      exact ⟨no (by simp only [totAt, h5, Bool.not_true, Bool.false_and, Bool.and_false]), H.oldE⟩
    have h5 : decide ((l.getD i default).most > 1000000) = false := decide_eq_false (by omega)
    (refine br (fun hc => ?_) (fun hc => ?_) <;> (try simp only [decide_eq_true_eq, decide_eq_false_iff_not, beq_iff_eq, bne_iff_ne, ne_eq, Bool.not_eq_true', Bool.not_eq_false', Bool.not_eq_true, Bool.not_eq_false, beq_eq_false_iff_ne, bne_eq_false_iff_eq, Int.not_lt, Int.not_le, gt_iff_lt, ge_iff_le, Decidable.not_not] at hc))
    · have e1 : IntKind.i64.wrap ((i : Int) - 1) = ((i - 1 : Nat) : Int) := by rw [wrap64_of (by omega) (by omega)]; omega
      rw [e1]
      simp only [Int.toNat_natCast]
      have hq := lbs_short (totAt_lbs (hp (i - 1) (by omega)))
      have hq1 := lbs_short h1
      refine r.nxTotal (i := i - 1) (by omega) fun b o a2 n2 c2 e1 e2 e3 e4 e5 ok2 s2 l2 => ?_
      repeat' (first | (first | refine ldI (by first | assumption | exact H.ld (by rfl) | exact H.ldO (by assumption)) ?_ | refine ldS (by first | assumption | exact H.ld (by rfl) | exact H.ldO (by assumption)) ?_ | refine ldB (by first | assumption | exact H.ld (by rfl) | exact H.ldO (by assumption)) ?_ | refine ldT (by first | assumption | exact H.ld (by rfl) | exact H.ldO (by assumption)) ?_ | refine re1 (by first | assumption | exact H.ld (by rfl) | exact H.ldO (by assumption)) ?_ | fail) | fail)
      refine (l3Text_ok (s2.ext H.oldE) (by omega) hq.2).mono ?_
      rintro v g3 ⟨rfl, f⟩
      have H := H.ext f
      refine ⟨_, rfl, ?_⟩
      repeat' (first | (first | refine ldI (by first | assumption | exact H.ld (by rfl) | exact H.ldO (by assumption)) ?_ | refine ldS (by first | assumption | exact H.ld (by rfl) | exact H.ldO (by assumption)) ?_ | refine ldB (by first | assumption | exact H.ld (by rfl) | exact H.ldO (by assumption)) ?_ | refine ldT (by first | assumption | exact H.ld (by rfl) | exact H.ldO (by assumption)) ?_ | refine re1 (by first | assumption | exact H.ld (by rfl) | exact H.ldO (by assumption)) ?_ | fail) | fail)
      refine (l3Text_ok (s1.ext H.oldE) (by omega) hq1.2).mono ?_
      rintro v g4 ⟨rfl, f⟩
      have H := H.ext f
      refine ⟨_, rfl, ?_⟩
      repeat' (first | (first | refine ldI (by first | assumption | exact H.ld (by rfl) | exact H.ldO (by assumption)) ?_ | refine ldS (by first | assumption | exact H.ld (by rfl) | exact H.ldO (by assumption)) ?_ | refine ldB (by first | assumption | exact H.ld (by rfl) | exact H.ldO (by assumption)) ?_ | refine ldT (by first | assumption | exact H.ld (by rfl) | exact H.ldO (by assumption)) ?_ | refine re1 (by first | assumption | exact H.ld (by rfl) | exact H.ldO (by assumption)) ?_ | fail) | fail)
      have h0 : i ≠ 0 := by omega
      (refine br (fun hc => ?_) (fun hc => ?_) <;> (try simp only [decide_eq_true_eq, decide_eq_false_iff_not, beq_iff_eq, bne_iff_ne, ne_eq, Bool.not_eq_true', Bool.not_eq_false', Bool.not_eq_true, Bool.not_eq_false, beq_eq_false_iff_ne, bne_eq_false_iff_eq, Int.not_lt, Int.not_le, gt_iff_lt, ge_iff_le, Decidable.not_not] at hc))
      · exact ⟨no (by simp only [totAt, blt, hc, h0, decide_false, Bool.or_false, Bool.and_false]), H.oldE⟩
      · refine UpI.next (by omega) hi ⟨H.to (by repeat' (first | exact trivial | exact rfl | omega | (refine ⟨?_, ?_⟩))), fun j hj => ?_⟩
        by_cases hji : j = i
        · rw [hji]; simp only [totAt, blt, h1, h2, h3, h4, h5, hc, Bool.or_true, Bool.and_true, Bool.not_false]
        · exact hp j (by omega)
    · have h0 : i = 0 := by omega
      refine UpI.next (by omega) hi ⟨H.to (by repeat' (first | exact trivial | exact rfl | omega | (refine ⟨?_, ?_⟩))), fun j hj => ?_⟩
      by_cases hji : j = i
      · rw [hji]; simp only [totAt, h1, h2, h3, h4, h5, decide_eq_true h0, Bool.true_or, Bool.and_true, Bool.not_false]
      · exact hp j (by omega)
  · have hin : i = l.length := by omega
    subst hin
    refine ⟨?_, H.oldE⟩
    unfold totsOk
    rw [rng_all hp]
    congr 1
    rw [Bool.eq_iff_iff]; simp; omega
end
end Go.Proofs.Ytjmhahjmbmiepaa.D

namespace Go.Proofs.Ytjmhahjmbmiepaa.D
open Go
set_option linter.unusedVariables false
set_option linter.unusedSimpArgs false

def valOf (op : Int) (x : TotalD) : Int := if op = 2 then x.count else if op = 3 then x.least else if op = 4 then x.most else x.sum
def valsT (op : Int) (l : List TotalD) : List Int := l.map (valOf op)
theorem valsT_len (op : Int) (l : List TotalD) : (valsT op l).length = l.length := by simp [valsT]
theorem valsT_get {op : Int} {l : List TotalD} {i : Nat} (hi : i < l.length) : (valsT op l).getD i 0 = valOf op (l.getD i default) := by
  rw [getD_of 0 (by simpa [valsT] using hi), getD_of _ hi]; simp [valsT]
theorem TotalD.ok.val {x : TotalD} (h : x.ok) (op : Int) : inI64 (valOf op x) := by
  obtain ⟨h1, h2, h3, h4⟩ := h
  unfold valOf
  split
  · exact h2
  · split
    · exact h3
    · split
      · exact h4
      · exact h1
theorem valOf_small {l : List TotalD} {i : Nat} (op : Int) (h : totAt l i = true) : -1000000000 ≤ valOf op (l.getD i default) ∧ valOf op (l.getD i default) ≤ 1000000000 := by
  unfold totAt at h
  simp only [Bool.and_eq_true, inR_iff, Bool.not_eq_true', decide_eq_false_iff_not] at h
  obtain ⟨_, h1, h2, h3, h4, _⟩ := h
  unfold valOf
  split
  · omega
  · split
    · omega
    · split
      · omega
      · omega
theorem vals_small {l : List TotalD} (op : Int) (h : totsOk l = true) : l.length ≤ 40 ∧ ∀ i, i < l.length → -1000000000 ≤ (valsT op l).getD i 0 ∧ (valsT op l).getD i 0 ≤ 1000000000 := by
  unfold totsOk at h
  simp only [Bool.and_eq_true, List.all_eq_true, decide_eq_true_eq] at h
  refine ⟨h.2, fun i hi => ?_⟩
  rw [valsT_get hi]
  exact valOf_small op (h.1 i (by simpa using hi))

def rngI (n : Nat) : List Int := (List.range n).map fun i : Nat => (i : Int)
theorem rngI_len (n : Nat) : (rngI n).length = n := by simp [rngI]
theorem rngI_get {n k : Nat} (h : k < n) : (rngI n).getD k 0 = k := by
  rw [getD_of 0 (by simpa [rngI] using h)]; simp [rngI]
theorem rngI_snoc (n : Nat) : rngI (n + 1) = rngI n ++ [(n : Int)] := by simp [rngI, List.range_succ]
theorem rngI_in (n : Nat) : InN n (rngI n) := fun x hx => by
  simp only [rngI, List.mem_map, List.mem_range] at hx
  obtain ⟨i, hi, rfl⟩ := hx
  omega
def vAt (vs : List Int) (x : Int) : Int := vs.getD x.toNat 0
/-- The numbers below n, the greatest value first; of equals, the smaller number. -/
def IsTop (vs : List Int) (n : Nat) (out : List Int) : Prop := out.Perm (rngI n) ∧ Srt (vAt vs) 0 n out
theorem IsTop.len {vs : List Int} {n : Nat} {out : List Int} (h : IsTop vs n out) : out.length = n := by rw [h.1.length_eq, rngI_len]
theorem IsTop.uniq {vs : List Int} {n : Nat} {o1 o2 : List Int} (h : IsTop vs n o1) (k : IsTop vs n o2) : o1 = o2 :=
  Srt.uniq (h.1.trans k.1.symm) (by rw [h.len]; exact h.2) (by rw [k.len]; exact k.2)
open Classical in
noncomputable def topD (vs : List Int) (n : Nat) : List Int := if h : ∃ out, IsTop vs n out then h.choose else []
theorem IsTop.eq {vs : List Int} {n : Nat} {out : List Int} (h : IsTop vs n out) : out = topD vs n := by
  have hx : ∃ out, IsTop vs n out := ⟨out, h⟩
  unfold topD
  rw [dif_pos hx]
  exact h.uniq hx.choose_spec

section
variable {h : Heap} {L : List Asn}
theorem totalValues_ok {l : List TotalD} {a : Option Addr} {n c : Nat} {op : Int} (r : SlR kTt h l a n c) (ho : 1 ≤ op ∧ op ≤ 4) (hn : n ≤ 40) : CallsH PP fn_impl_totalValues [.slice a n c, .int .i64 op] h fun v h' => ∃ a' c', v = .slice a' n c' ∧ Own h' [slA kI (valsT op l) a' n c', oldA h] := by
  refine calls_impl_totalValues _ _ _ _ ?_
  unfold M_impl_totalValues
  have ln := r.len
  refine ⟨UpSl n fun i ad m cd g => m = i ∧ Own g [slA kI ((valsT op l).take i) ad m cd, oldA h], UpKM n, UpSl.start ⟨rfl, ((Own.start h).slNil kI).to (by repeat' (first | exact trivial | exact rfl | omega | (refine ⟨?_, ?_⟩)))⟩, ?_⟩
  intro g ad m cd y hI
  obtain ⟨i, hi, rfl, rfl, H⟩ := hI.elim
  (refine br (fun hc => ?_) (fun hc => ?_) <;> (try simp only [decide_eq_true_eq, decide_eq_false_iff_not, beq_iff_eq, bne_iff_ne, ne_eq, Bool.not_eq_true', Bool.not_eq_false', Bool.not_eq_true, Bool.not_eq_false, beq_eq_false_iff_ne, bne_eq_false_iff_eq, Int.not_lt, Int.not_le, gt_iff_lt, ge_iff_le, Decidable.not_not] at hc))
  · have hi : m < n := by omega
    have hvl := valsT_len op l
    refine r.nxTotal hi fun b o a1 n1 c1 f1 f2 f3 f4 f5 ok s1 l1 => ?_
    repeat' (first | (first | refine ldI (by first | assumption | exact H.ld (by rfl) | exact H.ldO (by assumption)) ?_ | refine ldS (by first | assumption | exact H.ld (by rfl) | exact H.ldO (by assumption)) ?_ | refine ldB (by first | assumption | exact H.ld (by rfl) | exact H.ldO (by assumption)) ?_ | refine ldT (by first | assumption | exact H.ld (by rfl) | exact H.ldO (by assumption)) ?_ | refine re1 (by first | assumption | exact H.ld (by rfl) | exact H.ldO (by assumption)) ?_ | fail) | (refine H.nw fun g_ H => ?_) | (first | refine H.st (by simp) fun g_ H => ?_ | refine H.sts (by simp) fun g_ H => ?_ | fail) | fail)
    rw [wrap64_of (by omega) (by omega)]
    refine ⟨by omega, by omega, ?_⟩
    have e : List.getD [(l.getD m default).sum, (l.getD m default).count, (l.getD m default).least, (l.getD m default).most] (op - 1).toNat 0 = (valsT op l).getD m 0 := by
      rw [valsT_get (by omega)]
      have : op = 1 ∨ op = 2 ∨ op = 3 ∨ op = 4 := by omega
      rcases this with h | h | h | h <;> subst h <;> rfl
    rw [e]
    refine H.nw fun g4 H => ?_
    refine H.ap1 (k := kI) (y := (valsT op l).getD m 0) (by refine ⟨rfl, rfl, ?_⟩; rw [valsT_get (by omega)]; exact TotalD.ok.val ok op) (by omega) fun a2 c2 g5 H => ?_
    rw [takeSnoc 0 (by omega)] at H
    exact UpSl.next (by omega) hi ⟨rfl, H.to (by repeat' (first | exact trivial | exact rfl | omega | (refine ⟨?_, ?_⟩)))⟩
  · have hvl := valsT_len op l
    have hin : m = n := by omega
    subst hin
    rw [List.take_of_length_le (by omega)] at H
    exact ⟨_, _, rfl, H⟩
theorem l14Values_ok {l : List TotalD} {a : Option Addr} {n c : Nat} {op : Int} (r : SlR kTt h l a n c) (ho : 1 ≤ op ∧ op ≤ 4) (hn : n ≤ 40) : CallsH PP fn_spec_l14Values [.slice a n c, .int .i64 op] h fun v h' => ∃ a' c', v = .slice a' n c' ∧ Own h' [slA kI (valsT op l) a' n c', oldA h] := by
  refine calls_spec_l14Values _ _ _ _ ?_
  unfold M_spec_l14Values
  have ln := r.len
  have hvl := valsT_len op l
  refine ⟨UpSl n fun i ad m cd g => m = i ∧ Own g [slA kI ((valsT op l).take i) ad m cd, oldA h], UpKM n, UpSl.start ⟨rfl, ((Own.start h).slNil kI).to (by repeat' (first | exact trivial | exact rfl | omega | (refine ⟨?_, ?_⟩)))⟩, ?_⟩
  intro g ad m cd y hI
  obtain ⟨i, hi, rfl, rfl, H⟩ := hI.elim
  (refine br (fun hc => ?_) (fun hc => ?_) <;> (try simp only [decide_eq_true_eq, decide_eq_false_iff_not, beq_iff_eq, bne_iff_ne, ne_eq, Bool.not_eq_true', Bool.not_eq_false', Bool.not_eq_true, Bool.not_eq_false, beq_eq_false_iff_ne, bne_eq_false_iff_eq, Int.not_lt, Int.not_le, gt_iff_lt, ge_iff_le, Decidable.not_not] at hc))
  · have hi : m < n := by omega
    refine r.nxTotal hi fun b o a1 n1 c1 f1 f2 f3 f4 f5 ok s1 l1 => ?_
    repeat' (first | (first | refine ldI (by first | assumption | exact H.ld (by rfl) | exact H.ldO (by assumption)) ?_ | refine ldS (by first | assumption | exact H.ld (by rfl) | exact H.ldO (by assumption)) ?_ | refine ldB (by first | assumption | exact H.ld (by rfl) | exact H.ldO (by assumption)) ?_ | refine ldT (by first | assumption | exact H.ld (by rfl) | exact H.ldO (by assumption)) ?_ | refine re1 (by first | assumption | exact H.ld (by rfl) | exact H.ldO (by assumption)) ?_ | fail) | (refine H.nw fun g_ H => ?_) | (first | refine H.st (by simp) fun g_ H => ?_ | refine H.sts (by simp) fun g_ H => ?_ | fail) | fail)
    have okv := TotalD.ok.val ok op
    have hv := valsT_get (op := op) (l := l) (i := m) (by omega)
    have ts := takeSnoc (xs := valsT op l) 0 (i := m) (by omega)
    (refine br (fun hc => ?_) (fun hc => ?_) <;> (try simp only [decide_eq_true_eq, decide_eq_false_iff_not, beq_iff_eq, bne_iff_ne, ne_eq, Bool.not_eq_true', Bool.not_eq_false', Bool.not_eq_true, Bool.not_eq_false, beq_eq_false_iff_ne, bne_eq_false_iff_eq, Int.not_lt, Int.not_le, gt_iff_lt, ge_iff_le, Decidable.not_not] at hc))
    · (first | refine ldI (by first | assumption | exact H.ld (by rfl) | exact H.ldO (by assumption)) ?_ | refine ldS (by first | assumption | exact H.ld (by rfl) | exact H.ldO (by assumption)) ?_ | refine ldB (by first | assumption | exact H.ld (by rfl) | exact H.ldO (by assumption)) ?_ | refine ldT (by first | assumption | exact H.ld (by rfl) | exact H.ldO (by assumption)) ?_ | refine re1 (by first | assumption | exact H.ld (by rfl) | exact H.ldO (by assumption)) ?_ | fail)
      refine H.nw fun g4 H => ?_
      have e : (l.getD m default).count = (valsT op l).getD m 0 := by rw [hv]; simp [valOf, hc]
      rw [e] at H
      refine H.ap1 (k := kI) (y := (valsT op l).getD m 0) (by refine ⟨rfl, rfl, ?_⟩; rw [hv]; exact okv) (by omega) fun a2 c2 g5 H => ?_
      rw [ts] at H
      exact UpSl.next (by omega) hi ⟨rfl, H.to (by repeat' (first | exact trivial | exact rfl | omega | (refine ⟨?_, ?_⟩)))⟩
    have h2 := hc
    (refine br (fun hc => ?_) (fun hc => ?_) <;> (try simp only [decide_eq_true_eq, decide_eq_false_iff_not, beq_iff_eq, bne_iff_ne, ne_eq, Bool.not_eq_true', Bool.not_eq_false', Bool.not_eq_true, Bool.not_eq_false, beq_eq_false_iff_ne, bne_eq_false_iff_eq, Int.not_lt, Int.not_le, gt_iff_lt, ge_iff_le, Decidable.not_not] at hc))
    · (first | refine ldI (by first | assumption | exact H.ld (by rfl) | exact H.ldO (by assumption)) ?_ | refine ldS (by first | assumption | exact H.ld (by rfl) | exact H.ldO (by assumption)) ?_ | refine ldB (by first | assumption | exact H.ld (by rfl) | exact H.ldO (by assumption)) ?_ | refine ldT (by first | assumption | exact H.ld (by rfl) | exact H.ldO (by assumption)) ?_ | refine re1 (by first | assumption | exact H.ld (by rfl) | exact H.ldO (by assumption)) ?_ | fail)
      refine H.nw fun g4 H => ?_
      have e : (l.getD m default).least = (valsT op l).getD m 0 := by rw [hv]; simp [valOf, hc]
      rw [e] at H
      refine H.ap1 (k := kI) (y := (valsT op l).getD m 0) (by refine ⟨rfl, rfl, ?_⟩; rw [hv]; exact okv) (by omega) fun a2 c2 g5 H => ?_
      rw [ts] at H
      exact UpSl.next (by omega) hi ⟨rfl, H.to (by repeat' (first | exact trivial | exact rfl | omega | (refine ⟨?_, ?_⟩)))⟩
    have h3 := hc
    (refine br (fun hc => ?_) (fun hc => ?_) <;> (try simp only [decide_eq_true_eq, decide_eq_false_iff_not, beq_iff_eq, bne_iff_ne, ne_eq, Bool.not_eq_true', Bool.not_eq_false', Bool.not_eq_true, Bool.not_eq_false, beq_eq_false_iff_ne, bne_eq_false_iff_eq, Int.not_lt, Int.not_le, gt_iff_lt, ge_iff_le, Decidable.not_not] at hc))
    · (first | refine ldI (by first | assumption | exact H.ld (by rfl) | exact H.ldO (by assumption)) ?_ | refine ldS (by first | assumption | exact H.ld (by rfl) | exact H.ldO (by assumption)) ?_ | refine ldB (by first | assumption | exact H.ld (by rfl) | exact H.ldO (by assumption)) ?_ | refine ldT (by first | assumption | exact H.ld (by rfl) | exact H.ldO (by assumption)) ?_ | refine re1 (by first | assumption | exact H.ld (by rfl) | exact H.ldO (by assumption)) ?_ | fail)
      refine H.nw fun g4 H => ?_
      have e : (l.getD m default).most = (valsT op l).getD m 0 := by rw [hv]; simp [valOf, hc]
      rw [e] at H
      refine H.ap1 (k := kI) (y := (valsT op l).getD m 0) (by refine ⟨rfl, rfl, ?_⟩; rw [hv]; exact okv) (by omega) fun a2 c2 g5 H => ?_
      rw [ts] at H
      exact UpSl.next (by omega) hi ⟨rfl, H.to (by repeat' (first | exact trivial | exact rfl | omega | (refine ⟨?_, ?_⟩)))⟩
    refine H.nw fun g4 H => ?_
    have e : (l.getD m default).sum = (valsT op l).getD m 0 := by rw [hv]; simp [valOf, hc, h2, h3]
    rw [e] at H
    refine H.ap1 (k := kI) (y := (valsT op l).getD m 0) (by refine ⟨rfl, rfl, ?_⟩; rw [hv]; exact okv) (by omega) fun a2 c2 g5 H => ?_
    rw [ts] at H
    exact UpSl.next (by omega) hi ⟨rfl, H.to (by repeat' (first | exact trivial | exact rfl | omega | (refine ⟨?_, ?_⟩)))⟩
  · have hin : m = n := by omega
    subst hin
    rw [List.take_of_length_le (by omega)] at H
    exact ⟨_, _, rfl, H⟩
theorem TopOf_1_ok {vs : List Int} {a : Option Addr} {n c b o : Nat} {x y : Int} (hcell : cellAt h b o = some (.slice a n c)) (r : SlR kI h vs a n c) (hx : 0 ≤ x ∧ x < n) (hy : 0 ≤ y ∧ y < n) (hv : ∀ i, i < n → -1000000000 ≤ vs.getD i 0 ∧ vs.getD i 0 ≤ 1000000000) :
    CallsH PP fn_impl_TopOf_1 ([.int .i64 x, .int .i64 y] ++ [.pointer (some ⟨b, o, none⟩)]) h fun v h' => v = .int .i64 (vAt vs y - vAt vs x) ∧ h' = h := by
  refine calls_impl_TopOf_1 _ _ _ _ ?_
  unfold M_impl_TopOf_1
  have h1 := hv x.toNat (by omega)
  have h2 := hv y.toNat (by omega)
  refine ⟨_, _, _, hcell, ?_⟩
  refine r.ixI hy.1 hy.2 fun b1 o1 c1 _ => ?_
  refine ⟨_, c1, ?_⟩
  refine ⟨_, _, _, hcell, ?_⟩
  refine r.ixI hx.1 hx.2 fun b2 o2 c2 _ => ?_
  refine ⟨_, c2, ?_⟩
  rw [wrap64_of (by omega) (by omega)]
  exact ⟨rfl, rfl⟩
theorem callable_TopOf_1 : Callable PP fn_impl_TopOf_1 := ⟨_, Try.func122, by kernel_rfl, by kernel_rfl⟩

/-- What TopOf answers. -/
noncomputable def topAns (l : List TotalD) (op many : Int) : List Int × Bool :=
  if totsOk l = true ∧ inR op 1 4 = true ∧ inR many 0 40 = true then ((topD (valsT op l) l.length).take many.toNat, true) else ([], false)
theorem impl_TopOf_ok {l : List TotalD} {a : Option Addr} {n c : Nat} {op many : Int} (r : SlR kTt h l a n c) (hz : ∀ x ∈ l, TtZ x) :
    CallsH PP fn_impl_TopOf [.slice a n c, .int .i64 op, .int .i64 many] h fun v h' => ∃ a' n' c', v = .tuple ⟨[.slice a' n' c', .bool (topAns l op many).2]⟩ ∧ Own h' [slA kI (topAns l op many).1 a' n' c', oldA h] := by
  refine calls_impl_TopOf _ _ _ _ _ ?_
  unfold M_impl_TopOf
  have ln := r.len
  have H := Own.start h
  refine (areTotals_ok r hz).mono ?_
  rintro v g ⟨rfl, f⟩
  have H := H.ext f
  refine ⟨_, rfl, ?_⟩
  (refine br (fun hc => ?_) (fun hc => ?_) <;> (try simp only [decide_eq_true_eq, decide_eq_false_iff_not, beq_iff_eq, bne_iff_ne, ne_eq, Bool.not_eq_true', Bool.not_eq_false', Bool.not_eq_true, Bool.not_eq_false, beq_eq_false_iff_ne, bne_eq_false_iff_eq, Int.not_lt, Int.not_le, gt_iff_lt, ge_iff_le, Decidable.not_not] at hc))
  rotate_left
  · have e : topAns l op many = ([], false) := by unfold topAns; rw [if_neg (by rw [hc]; simp)]
    rw [e]; exact ⟨none, 0, 0, rfl, (H.slNil kI).to (by repeat' (first | exact trivial | exact rfl | omega | (refine ⟨?_, ?_⟩)))⟩
  have ht := hc
  ((refine (within_ok _ _ _).mono ?_; rintro v_ g_ ⟨rfl, rfl⟩; refine ⟨_, rfl, ?_⟩))
  (refine br (fun hc => ?_) (fun hc => ?_) <;> (try simp only [decide_eq_true_eq, decide_eq_false_iff_not, beq_iff_eq, bne_iff_ne, ne_eq, Bool.not_eq_true', Bool.not_eq_false', Bool.not_eq_true, Bool.not_eq_false, beq_eq_false_iff_ne, bne_eq_false_iff_eq, Int.not_lt, Int.not_le, gt_iff_lt, ge_iff_le, Decidable.not_not] at hc))
  rotate_left
  · have e : topAns l op many = ([], false) := by unfold topAns; rw [if_neg (by rw [hc]; simp)]
    rw [e]; exact ⟨none, 0, 0, rfl, (H.slNil kI).to (by repeat' (first | exact trivial | exact rfl | omega | (refine ⟨?_, ?_⟩)))⟩
  have ho := hc
  ((refine (within_ok _ _ _).mono ?_; rintro v_ g_ ⟨rfl, rfl⟩; refine ⟨_, rfl, ?_⟩))
  (refine br (fun hc => ?_) (fun hc => ?_) <;> (try simp only [decide_eq_true_eq, decide_eq_false_iff_not, beq_iff_eq, bne_iff_ne, ne_eq, Bool.not_eq_true', Bool.not_eq_false', Bool.not_eq_true, Bool.not_eq_false, beq_eq_false_iff_ne, bne_eq_false_iff_eq, Int.not_lt, Int.not_le, gt_iff_lt, ge_iff_le, Decidable.not_not] at hc))
  · have e : topAns l op many = ([], false) := by unfold topAns; rw [if_neg (by rw [hc]; simp)]
    rw [e]; exact ⟨none, 0, 0, rfl, (H.slNil kI).to (by repeat' (first | exact trivial | exact rfl | omega | (refine ⟨?_, ?_⟩)))⟩
  have hm := hc
  have e : topAns l op many = ((topD (valsT op l) l.length).take many.toNat, true) := by unfold topAns; rw [if_pos ⟨ht, ho, hm⟩]
  rw [e]
  rw [inR_iff] at ho hm
  obtain ⟨hl, hv⟩ := vals_small op ht
  have hvl := valsT_len op l
  refine (totalValues_ok (r.ext H.oldE) ho (by omega)).mono ?_
  rintro v g2 ⟨a1, c1, rfl, H1⟩
  have H := H.lift1 H1
  refine ⟨_, _, _, rfl, ?_⟩
  refine H.nw fun g3 H => ?_
  refine H.st (by simp) fun g4 H => ?_
  have H : Own g4 (rowA g2.size ty_S_int [.slice a1 n c1] :: slA kI (valsT op l) a1 n c1 :: [oldA h]) := H.to (by repeat' (first | exact trivial | exact rfl | omega | (refine ⟨?_, ?_⟩)))
  (first | refine ldI (by first | assumption | exact H.ld (by rfl) | exact H.ldO (by assumption)) ?_ | refine ldS (by first | assumption | exact H.ld (by rfl) | exact H.ldO (by assumption)) ?_ | refine ldB (by first | assumption | exact H.ld (by rfl) | exact H.ldO (by assumption)) ?_ | refine ldT (by first | assumption | exact H.ld (by rfl) | exact H.ldO (by assumption)) ?_ | refine re1 (by first | assumption | exact H.ld (by rfl) | exact H.ldO (by assumption)) ?_ | fail)
  refine ⟨UpSl n fun i ad m cd g => m = i ∧ Own g (slA kI (rngI i) ad m cd :: rowA g2.size ty_S_int [.slice a1 n c1] :: slA kI (valsT op l) a1 n c1 :: [oldA h]), UpKM n, UpSl.start ⟨rfl, (H.slNil kI).to (by repeat' (first | exact trivial | exact rfl | omega | (refine ⟨?_, ?_⟩)))⟩, ?_⟩
  intro g5 ad m cd y hI
  obtain ⟨i, hi, rfl, rfl, H⟩ := hI.elim
  (refine br (fun hc => ?_) (fun hc => ?_) <;> (try simp only [decide_eq_true_eq, decide_eq_false_iff_not, beq_iff_eq, bne_iff_ne, ne_eq, Bool.not_eq_true', Bool.not_eq_false', Bool.not_eq_true, Bool.not_eq_false, beq_eq_false_iff_ne, bne_eq_false_iff_eq, Int.not_lt, Int.not_le, gt_iff_lt, ge_iff_le, Decidable.not_not] at hc))
  · have hi : m < n := by omega
    refine H.nw fun g6 H => ?_
    refine H.ap1 (k := kI) (y := (m : Int)) (by exact ⟨rfl, rfl, by unfold inI64; omega⟩) (by omega) fun a2 c2 g5 H => ?_
    rw [← rngI_snoc] at H
    exact UpSl.next (by omega) hi ⟨rfl, H.to (by repeat' (first | exact trivial | exact rfl | omega | (refine ⟨?_, ?_⟩)))⟩
  · have hin : m = n := by omega
    subst hin
    have ck : CmpOk m (vAt (valsT op l)) fn_impl_TopOf_1 [.pointer (some ⟨g2.size, 0, none⟩)] ad m cd (rowA g2.size ty_S_int [.slice a1 m c1] :: slA kI (valsT op l) a1 m c1 :: [oldA h]) :=
      ⟨callable_TopOf_1, fun h ys H x y hx hy => by
        refine (TopOf_1_ok (vs := valsT op l) (a := a1) (n := m) (c := c1) (H.drop.ld (by rfl)) (H.drop.rd a1 m c1) hx hy (fun i hi => hv i (by omega))).mono ?_
        rintro v h' ⟨rfl, rfl⟩
        exact ⟨_, rfl, by omega, H⟩⟩
    refine (SortStable_ok ck H (rngI_in m) (by omega) fun k hk => rngI_get hk).mono ?_
    rintro v g6 ⟨rfl, ys, H, re, st⟩
    have top : IsTop (valsT op l) l.length ys := ⟨by rw [← ln.1]; exact re.perm, by rw [← ln.1]; exact st⟩
    have hyl := top.len
    rw [← top.eq]
    have hmin : minI many (m : Int) = ((min many.toNat m : Nat) : Int) := by unfold minI; split <;> omega
    have lnn := H.ln ad m cd
    rw [hmin]
    refine ⟨rfl, by omega, by omega, by omega, ?_⟩
    simp only [Int.toNat_natCast]
    have H := H.takeTo (m := min many.toNat m) (by omega)
    have e2 : ys.take (min many.toNat m) = ys.take many.toNat := by
      rw [show m = ys.length by omega, List.take_eq_take_iff]
      omega
    rw [e2] at H
    exact ⟨_, _, _, rfl, H.to (by repeat' (first | exact trivial | exact rfl | omega | (refine ⟨?_, ?_⟩)))⟩
end
end Go.Proofs.Ytjmhahjmbmiepaa.D

namespace Go.Proofs.Ytjmhahjmbmiepaa.D
open Go
set_option linter.unusedVariables false
set_option linter.unusedSimpArgs false

theorem Srt.ofPairwise {V : Int → Int} {xs : List Int} (p : xs.Pairwise (bf V)) : Srt V 0 xs.length xs := by
  intro i j h1 h2 h3
  have := List.pairwise_iff_getElem.1 p i j (by omega) h3 h2
  rwa [← getD_of 0 (show i < xs.length by omega), ← getD_of 0 h3] at this
theorem IsTop.ins {vs out : List Int} {i k : Nat} (h : IsTop vs i out) (hk : k ≤ i) (lo : ∀ t, t < k → vs.getD i 0 ≤ vAt vs (out.getD t 0)) (up : k < i → vAt vs (out.getD k 0) < vs.getD i 0) :
    IsTop vs (i + 1) (out.take k ++ [(i : Int)] ++ out.drop k) := by
  have hl := h.len
  have hp : out.Pairwise (bf (vAt vs)) := Srt.pairwise (by rw [hl]; exact h.2)
  have hi : vAt vs (i : Int) = vs.getD i 0 := by simp [vAt]
  have hin : ∀ x ∈ out, x < (i : Int) := fun x hx => (rngI_in i x (h.1.mem_iff.1 hx)).2
  have he : out.take k ++ [(i : Int)] ++ out.drop k = out.take k ++ (i : Int) :: out.drop k := by simp
  have hperm : (out.take k ++ (i : Int) :: out.drop k).Perm (rngI (i + 1)) := by
    rw [rngI_snoc]
    refine List.perm_middle.trans ?_
    rw [List.take_append_drop]
    refine (List.Perm.cons _ h.1).trans ?_
    exact (List.perm_append_singleton _ _).symm
  rw [he]
  refine ⟨hperm, ?_⟩
  have hlen : (out.take k ++ (i : Int) :: out.drop k).length = i + 1 := by rw [hperm.length_eq, rngI_len]
  rw [← hlen]
  refine Srt.ofPairwise ?_
  have hsplit := hp
  rw [← List.take_append_drop k out, List.pairwise_append] at hsplit
  obtain ⟨p1, p2, p3⟩ := hsplit
  have first : ∀ a ∈ out.take k, bf (vAt vs) a (i : Int) := by
    intro a ha
    obtain ⟨t, ht, rfl⟩ := List.getElem_of_mem ha
    rw [List.length_take] at ht
    have h1 := lo t (by omega)
    rw [getD_of 0 (show t < out.length by omega)] at h1
    rw [List.getElem_take]
    have h2 := hin (out[t]'(by omega)) (List.getElem_mem _)
    unfold bf
    rw [hi]
    omega
  have last : ∀ b ∈ out.drop k, bf (vAt vs) (i : Int) b := by
    intro b hb
    obtain ⟨t, ht, rfl⟩ := List.getElem_of_mem hb
    rw [List.length_drop] at ht
    rw [List.getElem_drop]
    have h1 := up (by omega)
    have h2 : vAt vs (out[k + t]'(by omega)) ≤ vAt vs (out.getD k 0) := by
      by_cases h0 : t = 0
      · subst h0; rw [getD_of 0 (show k < out.length by omega)]; exact Int.le_refl _
      · have := List.pairwise_iff_getElem.1 hp k (k + t) (by omega) (by omega) (by omega)
        rw [getD_of 0 (show k < out.length by omega)]
        unfold bf at this
        omega
    unfold bf
    rw [hi]
    omega
  rw [List.pairwise_append]
  refine ⟨p1, ?_, ?_⟩
  · rw [List.pairwise_cons]; exact ⟨last, p2⟩
  · intro a ha b hb
    rcases List.mem_cons.1 hb with rfl | hb
    · exact first a ha
    · exact p3 a ha b hb

section
variable {h : Heap} {L : List Asn}
theorem spec_TopOf_ok {l : List TotalD} {a : Option Addr} {n c : Nat} {op many : Int} (r : SlR kTt h l a n c) (hz : ∀ x ∈ l, TtZ x) :
    CallsH PP fn_spec_TopOf [.slice a n c, .int .i64 op, .int .i64 many] h fun v h' => ∃ a' n' c', v = .tuple ⟨[.slice a' n' c', .bool (topAns l op many).2]⟩ ∧ Own h' [slA kI (topAns l op many).1 a' n' c', oldA h] := by
  refine calls_spec_TopOf _ _ _ _ _ ?_
  unfold M_spec_TopOf
  have ln := r.len
  have H := Own.start h
  refine (GoodTotals_ok r hz).mono ?_
  rintro v g ⟨rfl, f⟩
  have H := H.ext f
  refine ⟨_, rfl, ?_⟩
  (refine br (fun hc => ?_) (fun hc => ?_) <;> (try simp only [decide_eq_true_eq, decide_eq_false_iff_not, beq_iff_eq, bne_iff_ne, ne_eq, Bool.not_eq_true', Bool.not_eq_false', Bool.not_eq_true, Bool.not_eq_false, beq_eq_false_iff_ne, bne_eq_false_iff_eq, Int.not_lt, Int.not_le, gt_iff_lt, ge_iff_le, Decidable.not_not] at hc))
  rotate_left
  · have e : topAns l op many = ([], false) := by unfold topAns; rw [if_neg (by rw [hc]; simp)]
    rw [e]; exact ⟨none, 0, 0, rfl, (H.slNil kI).to (by repeat' (first | exact trivial | exact rfl | omega | (refine ⟨?_, ?_⟩)))⟩
  have ht := hc
  ((refine (l1In_ok _ _ _).mono ?_; rintro v_ g_ ⟨rfl, rfl⟩; refine ⟨_, rfl, ?_⟩))
  (refine br (fun hc => ?_) (fun hc => ?_) <;> (try simp only [decide_eq_true_eq, decide_eq_false_iff_not, beq_iff_eq, bne_iff_ne, ne_eq, Bool.not_eq_true', Bool.not_eq_false', Bool.not_eq_true, Bool.not_eq_false, beq_eq_false_iff_ne, bne_eq_false_iff_eq, Int.not_lt, Int.not_le, gt_iff_lt, ge_iff_le, Decidable.not_not] at hc))
  rotate_left
  · have e : topAns l op many = ([], false) := by unfold topAns; rw [if_neg (by rw [hc]; simp)]
    rw [e]; exact ⟨none, 0, 0, rfl, (H.slNil kI).to (by repeat' (first | exact trivial | exact rfl | omega | (refine ⟨?_, ?_⟩)))⟩
  have ho := hc
  ((refine (l1In_ok _ _ _).mono ?_; rintro v_ g_ ⟨rfl, rfl⟩; refine ⟨_, rfl, ?_⟩))
  (refine br (fun hc => ?_) (fun hc => ?_) <;> (try simp only [decide_eq_true_eq, decide_eq_false_iff_not, beq_iff_eq, bne_iff_ne, ne_eq, Bool.not_eq_true', Bool.not_eq_false', Bool.not_eq_true, Bool.not_eq_false, beq_eq_false_iff_ne, bne_eq_false_iff_eq, Int.not_lt, Int.not_le, gt_iff_lt, ge_iff_le, Decidable.not_not] at hc))
  · have e : topAns l op many = ([], false) := by unfold topAns; rw [if_neg (by rw [hc]; simp)]
    rw [e]; exact ⟨none, 0, 0, rfl, (H.slNil kI).to (by repeat' (first | exact trivial | exact rfl | omega | (refine ⟨?_, ?_⟩)))⟩
  have hm := hc
  have e : topAns l op many = ((topD (valsT op l) l.length).take many.toNat, true) := by unfold topAns; rw [if_pos ⟨ht, ho, hm⟩]
  rw [e]
  rw [inR_iff] at ho hm
  obtain ⟨hl, hv⟩ := vals_small op ht
  have hvl := valsT_len op l
  refine (l14Values_ok (r.ext H.oldE) ho (by omega)).mono ?_
  rintro v g2 ⟨a1, c1, rfl, H1⟩
  have H := H.lift1 H1
  refine ⟨_, _, _, rfl, ?_⟩
  refine ⟨UpSl n fun i ad m cd g => m = i ∧ ∃ out, IsTop (valsT op l) i out ∧ Own g (slA kI out ad m cd :: slA kI (valsT op l) a1 n c1 :: [oldA h]), UpKM n,
    UpSl.start ⟨rfl, [], ⟨List.Perm.refl _, fun i j h1 h2 h3 => by omega⟩, (H.slNil kI).to (by repeat' (first | exact trivial | exact rfl | omega | (refine ⟨?_, ?_⟩)))⟩, ?_⟩
  intro g5 ad m cd y hI
  obtain ⟨i, hi, rfl, rfl, out, top, H⟩ := hI.elim
  have hol := top.len
  have lnn := H.ln ad m cd
  (refine br (fun hc => ?_) (fun hc => ?_) <;> (try simp only [decide_eq_true_eq, decide_eq_false_iff_not, beq_iff_eq, bne_iff_ne, ne_eq, Bool.not_eq_true', Bool.not_eq_false', Bool.not_eq_true, Bool.not_eq_false, beq_eq_false_iff_ne, bne_eq_false_iff_eq, Int.not_lt, Int.not_le, gt_iff_lt, ge_iff_le, Decidable.not_not] at hc))
  · have hi : m < n := by omega
    refine (H.rd a1 n c1).nxI hi fun b o f1 _ => ?_
    refine ⟨_, f1, ?_⟩
    intro K hK
    have key : ∀ (g : Heap) (k : Nat), Own g (slA kI out ad m cd :: slA kI (valsT op l) a1 n c1 :: [oldA h]) → k ≤ m → (∀ t, t < k → (valsT op l).getD m 0 ≤ vAt (valsT op l) (out.getD t 0)) →
        (k < m → vAt (valsT op l) (out.getD k 0) < (valsT op l).getD m 0) → K [.int .i64 (k : Int)] g := by
      intro g k H hk lo up
      refine hK _ _ ?_
      intro g6 e6
      have H := (H.made0 kI).at e6
      refine ⟨by omega, by omega, by omega, ?_⟩
      simp only [Int.toNat_natCast]
      refine H.apR (k := kI) ((H.rd ad m cd).takeTo hk) (flatI _) (by omega) fun a2 c2 g7 H => ?_
      rw [List.nil_append] at H
      rw [Nat.zero_add] at H ⊢
      refine H.nw fun g8 H => ?_
      refine H.ap1 (k := kI) (y := (m : Int)) (by exact ⟨rfl, rfl, by unfold inI64; omega⟩) (by omega) fun a3 c3 g9 H => ?_
      refine ⟨by omega, by omega, by omega, ?_⟩
      refine H.apR (k := kI) (((H.front ad m cd).sub (l := k) hk).sl m0) (flatI _) (by omega) fun a4 c4 g10 H => ?_
      have em : k + 1 + (m - k) = m + 1 := by omega
      rw [em] at H ⊢
      exact UpSl.next (by omega) hi ⟨rfl, _, top.ins hk lo up, H.to (by repeat' (first | exact trivial | exact rfl | omega | (refine ⟨?_, ?_⟩)))⟩
    refine ⟨UpI m fun k g => Own g (slA kI out ad m cd :: slA kI (valsT op l) a1 n c1 :: [oldA h]) ∧ ∀ t, t < k → (valsT op l).getD m 0 ≤ vAt (valsT op l) (out.getD t 0), UpM m, UpI.start ⟨H, fun t ht => by omega⟩, ?_⟩
    intro g6 y hI
    obtain ⟨k, hk, rfl, H, lo⟩ := hI.elim
    (refine br (fun hc => ?_) (fun hc => ?_) <;> (try simp only [decide_eq_true_eq, decide_eq_false_iff_not, beq_iff_eq, bne_iff_ne, ne_eq, Bool.not_eq_true', Bool.not_eq_false', Bool.not_eq_true, Bool.not_eq_false, beq_eq_false_iff_ne, bne_eq_false_iff_eq, Int.not_lt, Int.not_le, gt_iff_lt, ge_iff_le, Decidable.not_not] at hc))
    · have hk : k < m := by omega
      refine (H.rd ad m cd).nxI hk fun b o f2 _ => ?_
      refine ⟨_, f2, ?_⟩
      have hx := rngI_in m (out.getD k 0) (top.1.mem_iff.1 (by rw [getD_of 0 (show k < out.length by omega)]; exact List.getElem_mem _))
      refine (H.rd a1 n c1).ixI hx.1 (by omega) fun b o f3 _ => ?_
      refine ⟨_, f3, ?_⟩
      (refine br (fun hc => ?_) (fun hc => ?_) <;> (try simp only [decide_eq_true_eq, decide_eq_false_iff_not, beq_iff_eq, bne_iff_ne, ne_eq, Bool.not_eq_true', Bool.not_eq_false', Bool.not_eq_true, Bool.not_eq_false, beq_eq_false_iff_ne, bne_eq_false_iff_eq, Int.not_lt, Int.not_le, gt_iff_lt, ge_iff_le, Decidable.not_not] at hc))
      · refine UpI.next (by omega) hk ⟨H, fun t ht => ?_⟩
        by_cases e : t = k
        · rw [e]; exact hc
        · exact lo t (by omega)
      · exact key g6 k H (by omega) lo fun _ => by unfold vAt; omega
    · have hkm : k = m := by omega
      exact key g6 k H (by omega) lo fun h => by omega
  · have hin : m = n := by omega
    have eqt : out = topD (valsT op l) l.length := by rw [← ln.1, ← hin]; exact top.eq
    rw [← eqt]
    (refine br (fun hc => ?_) (fun hc => ?_) <;> (try simp only [decide_eq_true_eq, decide_eq_false_iff_not, beq_iff_eq, bne_iff_ne, ne_eq, Bool.not_eq_true', Bool.not_eq_false', Bool.not_eq_true, Bool.not_eq_false, beq_eq_false_iff_ne, bne_eq_false_iff_eq, Int.not_lt, Int.not_le, gt_iff_lt, ge_iff_le, Decidable.not_not] at hc))
    · intro g6 e6
      have H := (H.made0 kI).at e6
      refine ⟨by omega, by omega, by omega, ?_⟩
      refine H.apR (k := kI) ((H.rd ad m cd).takeTo (m := many.toNat) (by omega)) (flatI _) (by omega) fun a2 c2 g7 H => ?_
      rw [List.nil_append] at H
      exact ⟨_, _, _, rfl, H.to (by repeat' (first | exact trivial | exact rfl | omega | (refine ⟨?_, ?_⟩)))⟩
    · rw [List.take_of_length_le (by omega)]
      exact ⟨_, _, _, rfl, H.to (by repeat' (first | exact trivial | exact rfl | omega | (refine ⟨?_, ?_⟩)))⟩
end
end Go.Proofs.Ytjmhahjmbmiepaa.D
