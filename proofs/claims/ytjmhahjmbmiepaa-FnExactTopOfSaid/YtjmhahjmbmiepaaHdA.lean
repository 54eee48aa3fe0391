/- Heads, as plain lists: the order of names, where a name stands, what taking a measurement does. -/
import Derived.Test.YtjmhahjmbmiepaaKdA
import Derived.Lib.Bytealg
namespace Go.Proofs.Ytjmhahjmbmiepaa.D
open Go
set_option linter.unusedVariables false
set_option linter.unusedSimpArgs false

def lbl : List UInt8 → List UInt8 → Bool := Op.bytesLess
theorem lbl_irrefl : ∀ (x : List UInt8), lbl x x = false
  | [] => rfl
  | a :: x => by simp [lbl, Op.bytesLess]; exact lbl_irrefl x
theorem lbl_trans : ∀ {x y z : List UInt8}, lbl x y = true → lbl y z = true → lbl x z = true
  | _, [], _, h, _ => by cases ‹List UInt8› <;> simp [lbl, Op.bytesLess] at h
  | _, _ :: _, [], _, h => by simp [lbl, Op.bytesLess] at h
  | [], _ :: _, _ :: _, _, _ => rfl
  | a :: x, b :: y, c :: z, h1, h2 => by
    simp only [lbl, Op.bytesLess, Bool.or_eq_true, Bool.and_eq_true, decide_eq_true_eq, beq_iff_eq] at h1 h2 ⊢
    rcases h1 with h1 | ⟨rfl, h1⟩
    · rcases h2 with h2 | ⟨rfl, h2⟩
      · exact .inl (UInt8.lt_trans h1 h2)
      · exact .inl h1
    · rcases h2 with h2 | ⟨rfl, h2⟩
      · exact .inl h2
      · exact .inr ⟨rfl, lbl_trans h1 h2⟩
theorem lbl_tri : ∀ (x y : List UInt8), x = y ∨ lbl x y = true ∨ lbl y x = true
  | [], [] => .inl rfl
  | [], _ :: _ => .inr (.inl rfl)
  | _ :: _, [] => .inr (.inr rfl)
  | a :: x, b :: y => by
    simp only [lbl, Op.bytesLess, Bool.or_eq_true, Bool.and_eq_true, decide_eq_true_eq, beq_iff_eq, List.cons.injEq]
    by_cases h : a < b
    · exact .inr (.inl (.inl h))
    · by_cases h' : b < a
      · exact .inr (.inr (.inl h'))
      · have he : a = b := by
          have h1 := UInt8.not_lt.1 h
          have h2 := UInt8.not_lt.1 h'
          exact UInt8.le_antisymm h2 h1
        subst he
        rcases lbl_tri x y with h | h | h
        · exact .inl ⟨rfl, h⟩
        · exact .inr (.inl (.inr ⟨rfl, h⟩))
        · exact .inr (.inr (.inr ⟨rfl, h⟩))
theorem cmpB : ∀ (x y : List UInt8), (Lib.compareBytes x y < 0 ↔ lbl x y = true) ∧ (Lib.compareBytes x y = 0 ↔ x = y) ∧ -1 ≤ Lib.compareBytes x y ∧ Lib.compareBytes x y ≤ 1
  | [], [] => by simp [Lib.compareBytes, lbl, Op.bytesLess]
  | [], _ :: _ => by simp [Lib.compareBytes, lbl, Op.bytesLess]
  | _ :: _, [] => by simp [Lib.compareBytes, lbl, Op.bytesLess]
  | a :: x, b :: y => by
    have ih := cmpB x y
    unfold Lib.compareBytes
    simp only [lbl, Op.bytesLess, Bool.or_eq_true, Bool.and_eq_true, decide_eq_true_eq, beq_iff_eq, List.cons.injEq] at ih ⊢
    by_cases h : a < b
    · have hne : a ≠ b := by rintro rfl; exact UInt8.lt_irrefl _ h
      simp [h, hne]
    · by_cases h' : b < a
      · have hne : a ≠ b := by rintro rfl; exact h h'
        simp [h, h', hne]
      · have he : a = b := UInt8.le_antisymm (UInt8.not_lt.1 h') (UInt8.not_lt.1 h)
        subst he
        simp only [if_neg h, true_and]
        have : (a < a ∨ Op.bytesLess x y = true) ↔ Op.bytesLess x y = true := ⟨fun hh => hh.elim (fun h0 => absurd h0 h) id, .inr⟩
        rw [this]
        exact ih

/-- '<' of texts. -/
def blt (a b : ByteArray) : Bool := Op.bytesLess (ByteArray.toList a) (ByteArray.toList b)
theorem bytes_inj {a b : ByteArray} (h : a.data.toList = b.data.toList) : a = b := by
  obtain ⟨⟨a⟩⟩ := a
  obtain ⟨⟨b⟩⟩ := b
  simp at h
  subst h; rfl
theorem toList_inj {a b : ByteArray} : ByteArray.toList a = ByteArray.toList b ↔ a = b := by
  rw [Lib.toList_data, Lib.toList_data]
  exact ⟨bytes_inj, fun h => by rw [h]⟩
theorem toList_beq (a b : ByteArray) : (ByteArray.toList a == ByteArray.toList b) = decide (a = b) := by
  rw [Bool.eq_iff_iff]; simp [toList_inj]
theorem blt_irrefl (a : ByteArray) : blt a a = false := lbl_irrefl _
theorem blt_trans {a b c : ByteArray} (h1 : blt a b = true) (h2 : blt b c = true) : blt a c = true := lbl_trans h1 h2
theorem blt_tri (a b : ByteArray) : a = b ∨ blt a b = true ∨ blt b a = true := by
  rcases lbl_tri (ByteArray.toList a) (ByteArray.toList b) with h | h | h
  · exact .inl (toList_inj.1 h)
  · exact .inr (.inl h)
  · exact .inr (.inr h)
theorem blt_asymm {a b : ByteArray} (h : blt a b = true) : blt b a = false := by
  cases h2 : blt b a with
  | false => rfl
  | true => have := blt_trans h h2; rw [blt_irrefl] at this; cases this
def bcmp (a b : ByteArray) : Int := Lib.compareBytes a.data.toList b.data.toList
theorem bcmp_lt (a b : ByteArray) : bcmp a b < 0 ↔ blt a b = true := by
  unfold bcmp blt; rw [Lib.toList_data, Lib.toList_data]; exact (cmpB _ _).1
theorem bcmp_eq (a b : ByteArray) : bcmp a b = 0 ↔ a = b := by
  unfold bcmp; rw [(cmpB _ _).2.1]; exact ⟨bytes_inj, fun h => by rw [h]⟩

/-! ### Where a name stands -/

def posD : List RowD → ByteArray → Nat
  | [], _ => 0
  | r :: rs, nm => if blt r.name nm = true then posD rs nm + 1 else 0
theorem posD_le : ∀ (rs : List RowD) (nm : ByteArray), posD rs nm ≤ rs.length
  | [], _ => Nat.le_refl _
  | r :: rs, nm => by
    unfold posD
    have := posD_le rs nm
    split <;> simp <;> omega
theorem posD_uniq : ∀ {rs : List RowD} {nm : ByteArray} {k : Nat}, k ≤ rs.length → (∀ i, i < k → blt (rs.getD i default).name nm = true) → (k < rs.length → blt (rs.getD k default).name nm = false) → k = posD rs nm
  | [], nm, k, hk, _, _ => by simp at hk; subst hk; rfl
  | r :: rs, nm, 0, _, _, h => by
    have := h (by simp)
    simp at this
    unfold posD
    rw [this]; rfl
  | r :: rs, nm, k + 1, hk, h1, h2 => by
    have h0 := h1 0 (by omega)
    simp at h0
    unfold posD
    rw [if_pos h0, ← posD_uniq (k := k) (by simpa using hk) (fun i hi => by have := h1 (i + 1) (by omega); simpa using this) (fun hl => by have := h2 (by simpa using hl); simpa using this)]
theorem posD_before : ∀ {rs : List RowD} {nm : ByteArray} {i : Nat}, i < posD rs nm → blt (rs.getD i default).name nm = true
  | [], _, _, h => by simp [posD] at h
  | r :: rs, nm, i, h => by
    unfold posD at h
    split at h
    · rename_i hr
      cases i with
      | zero => simpa using hr
      | succ i => have := posD_before (rs := rs) (nm := nm) (i := i) (by omega); simpa using this
    · omega
theorem posD_at : ∀ {rs : List RowD} {nm : ByteArray}, posD rs nm < rs.length → blt (rs.getD (posD rs nm) default).name nm = false
  | [], _, h => by simp at h
  | r :: rs, nm, h => by
    unfold posD at h ⊢
    split
    · rename_i hr
      rw [if_pos hr] at h
      have := posD_at (rs := rs) (nm := nm) (by simpa using h)
      simpa using this
    · rename_i hr
      simpa using hr

/-- A measurement put behind others: they, and the code. -/
def putSample (l : List SampleD) (s : SayD) : List SampleD × Int :=
  if 0 < l.length then
    if (l.getD (l.length - 1) default).at_ = s.at_ then (l, 2)
    else if (l.getD (l.length - 1) default).at_ > s.at_ then (l, 3)
    else if l.length = 40 then (l, 4)
    else (l ++ [⟨s.at_, s.value⟩], 1)
  else (l ++ [⟨s.at_, s.value⟩], 1)
def takeH (x : HeadD) (s : SayD) : HeadD × Int :=
  if posD x.rows s.name < x.rows.length ∧ (x.rows.getD (posD x.rows s.name) default).name = s.name then
    (⟨x.rows.set (posD x.rows s.name) ⟨s.name, (putSample (x.rows.getD (posD x.rows s.name) default).samples s).1⟩, x.offset + 1⟩, (putSample (x.rows.getD (posD x.rows s.name) default).samples s).2)
  else if x.rows.length = 8 then (⟨x.rows, x.offset + 1⟩, 4)
  else (⟨x.rows.take (posD x.rows s.name) ++ ⟨s.name, [⟨s.at_, s.value⟩]⟩ :: x.rows.drop (posD x.rows s.name), x.offset + 1⟩, 1)

structure WfH (x : HeadD) : Prop where
  sorted : (x.rows.map RowD.name).Pairwise fun a b => blt a b = true
  full : ∀ r ∈ x.rows, r.samples ≠ [] ∧ r.samples.length ≤ 40
  few : x.rows.length ≤ 8
theorem WfH.nil (o : Int) : WfH ⟨[], o⟩ := ⟨List.Pairwise.nil, (fun r h => by cases h), by simp⟩
theorem WfH.lt {x : HeadD} (w : WfH x) {i j : Nat} (hij : i < j) (hj : j < x.rows.length) : blt (x.rows.getD i default).name (x.rows.getD j default).name = true := by
  have := List.pairwise_iff_getElem.1 w.sorted i j (by simp; omega) (by simpa using hj) hij
  rw [getD_of default (show i < x.rows.length by omega), getD_of default hj]
  simpa using this
theorem WfH.at {x : HeadD} (w : WfH x) {i : Nat} (hi : i < x.rows.length) : (x.rows.getD i default).samples ≠ [] ∧ (x.rows.getD i default).samples.length ≤ 40 := by
  rw [getD_of default hi]; exact w.full _ (List.getElem_mem _)
theorem putSample_ok {l : List SampleD} {s : SayD} (h : l.length ≤ 40) : (putSample l s).1 ≠ [] ∧ (putSample l s).1.length ≤ 40 := by
  unfold putSample
  split
  · rename_i hl
    have hne : l ≠ [] := by rintro rfl; simp at hl
    split
    · exact ⟨hne, h⟩
    · split
      · exact ⟨hne, h⟩
      · split
        · exact ⟨hne, h⟩
        · simp; omega
  · rename_i hl
    simp; omega
theorem WfH.take {x : HeadD} (w : WfH x) (s : SayD) : WfH (takeH x s).1 := by
  unfold takeH
  split
  · rename_i hf
    refine ⟨?_, fun r hr => ?_, by simpa using w.few⟩
    · have : (x.rows.set (posD x.rows s.name) ⟨s.name, (putSample (x.rows.getD (posD x.rows s.name) default).samples s).1⟩).map RowD.name = x.rows.map RowD.name := by
        rw [List.map_set]
        have h1 : s.name = (x.rows.map RowD.name)[posD x.rows s.name]'(by simpa using hf.1) := by
          rw [List.getElem_map, ← getD_of default hf.1]; exact hf.2.symm
        conv => lhs; arg 3; rw [show (RowD.mk s.name (putSample (x.rows.getD (posD x.rows s.name) default).samples s).1).name = s.name from rfl, h1]
        exact List.set_getElem_self _
      rw [this]; exact w.sorted
    · rcases List.mem_or_eq_of_mem_set hr with hr | rfl
      · exact w.full r hr
      · exact putSample_ok (w.at hf.1).2
  · rename_i hf
    split
    · exact ⟨w.sorted, w.full, w.few⟩
    · rename_i h8
      have hle := posD_le x.rows s.name
      have hfew := w.few
      refine ⟨?_, fun r hr => ?_, ?_⟩
      · have hs := w.sorted
        rw [← List.take_append_drop (posD x.rows s.name) x.rows, List.map_append] at hs
        obtain ⟨p1, p2, p3⟩ := List.pairwise_append.1 hs
        dsimp only
        rw [List.map_append, List.map_cons]
        have low : ∀ a ∈ (x.rows.take (posD x.rows s.name)).map RowD.name, blt a s.name = true := by
          intro a ha
          obtain ⟨r, hr, rfl⟩ := List.mem_map.1 ha
          obtain ⟨i, hi, rfl⟩ := List.getElem_of_mem hr
          rw [List.length_take] at hi
          rw [List.getElem_take, ← getD_of default (by omega)]
          exact posD_before (by omega)
        have high : ∀ a ∈ (x.rows.drop (posD x.rows s.name)).map RowD.name, blt s.name a = true := by
          intro a ha
          obtain ⟨r, hr, rfl⟩ := List.mem_map.1 ha
          obtain ⟨i, hi, rfl⟩ := List.getElem_of_mem hr
          rw [List.length_drop] at hi
          have hlt : posD x.rows s.name < x.rows.length := by omega
          have h0 : blt s.name (x.rows.getD (posD x.rows s.name) default).name = true := by
            rcases blt_tri s.name (x.rows.getD (posD x.rows s.name) default).name with h | h | h
            · exact absurd ⟨hlt, h.symm⟩ hf
            · exact h
            · rw [posD_at hlt] at h; cases h
          rw [List.getElem_drop, ← getD_of default (by omega)]
          by_cases hi0 : i = 0
          · subst hi0; exact h0
          · exact blt_trans h0 (w.lt (by omega) (by omega))
        refine List.pairwise_append.2 ⟨p1, List.pairwise_cons.2 ⟨high, p2⟩, fun a ha b hb => ?_⟩
        rcases List.mem_cons.1 hb with rfl | hb
        · exact low a ha
        · exact p3 a ha b hb
      · rcases List.mem_append.1 hr with hr | hr
        · exact w.full r (List.mem_of_mem_take hr)
        · rcases List.mem_cons.1 hr with rfl | hr
          · simp
          · exact w.full r (List.mem_of_mem_drop hr)
      · simp; omega
theorem takeH_offset (x : HeadD) (s : SayD) : (takeH x s).1.offset = x.offset + 1 := by
  unfold takeH; split
  · rfl
  · split <;> rfl
def foldH (x : HeadD) (l : List SayD) : HeadD := l.foldl (fun y s => (takeH y s).1) x
theorem foldH_snoc (x : HeadD) (l : List SayD) (s : SayD) : foldH x (l ++ [s]) = (takeH (foldH x l) s).1 := by unfold foldH; rw [List.foldl_append]; rfl
theorem WfH.fold {x : HeadD} (w : WfH x) : ∀ (l : List SayD), WfH (foldH x l) := by
  intro l
  induction l generalizing x with
  | nil => exact w
  | cons s l ih => exact ih (w.take s)
theorem foldH_offset (x : HeadD) : ∀ (l : List SayD), (foldH x l).offset = x.offset + l.length := by
  intro l
  induction l generalizing x with
  | nil => simp [foldH]
  | cons s l ih =>
    have := ih (x := (takeH x s).1)
    rw [takeH_offset] at this
    rw [show foldH x (s :: l) = foldH (takeH x s).1 l from rfl, this]; simp; omega
end Go.Proofs.Ytjmhahjmbmiepaa.D
