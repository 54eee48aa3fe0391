/- Regions and statements. -/
import Derived.Test.YtjmhahjmbmiepaaDenH
namespace Go.Proofs.Ytjmhahjmbmiepaa.D
open Go

/-! ### The frame while an operation is done -/

def putE (e : Env) (d : Option Tmp) (v : SV) : Env := match d with
  | some d => (d, some v) :: e
  | none => e

theorem look_cons {β : Type} (k : Nat) (v : β) (l : List (Nat × β)) (s : Nat) : look ((k, v) :: l) s = if k = s then some v else look l s := by
  show (bif Nat.beq k s then some v else look l s) = _
  by_cases h : k = s
  · subst h; simp
  · rw [if_neg h]
    have : Nat.beq k s = false := by
      cases hb : Nat.beq k s with
      | true => exact absurd (Nat.eq_of_beq_eq_true hb) h
      | false => rfl
    rw [this]; rfl

def okDst (n : Nat) : Option Tmp → Bool
  | some d => Nat.blt d n
  | none => true

theorem Agree.put {e : Env} {a : Act} (ha : Agree e a) {d : Option Tmp} (hd : okDst a.tmps.size d = true) (v : SV) : Agree (putE e d v) (a.put d v.val) := by
  cases d with
  | none => exact ha
  | some d =>
    have hlt : d < a.tmps.size := by simpa [okDst, Nat.blt_eq] using hd
    intro t u hu
    simp only [putE, look_cons] at hu
    simp only [Act.put, Array.size_setIfInBounds]
    split at hu
    · rename_i heq
      subst heq
      injection hu with hu
      injection hu with hu
      subst hu
      simp [hlt]
    · rename_i hne
      obtain ⟨h1, h2⟩ := ha t u hu
      refine ⟨?_, h2⟩
      rw [← h1]
      simp [Array.getElem?_setIfInBounds_ne hne]

theorem put_size (a : Act) (d : Option Tmp) (v : Value) : (a.put d v).tmps.size = a.tmps.size := by
  cases d <;> simp [Act.put]
theorem put_defers (a : Act) (d : Option Tmp) (v : Value) : (a.put d v).defers = a.defers := by
  cases d <;> rfl

/-- A heap that an operation has made gets a name. -/
def namesH : Op → Bool
  | .alloc _ | .box .. | .buildSlice .. | .makeSlice .. | .store .. => true
  | _ => false
def nameH (b : Bool) (h : Heap) (K : Heap → Prop) : Prop := match b with
  | true => ∀ g, g = h → K g
  | false => K h
theorem nameH_of {b : Bool} {h : Heap} {K : Heap → Prop} (k : nameH b h K) : K h := by
  cases b with
  | true => exact k h rfl
  | false => exact k

/-! ### Operations in the order of the text; a guard parts the way once -/

/-- What a guard's test is known to be: slots whose Bool is known here. -/
def guardOf (ops : List Oper) (e : Env) (j : Nat) : Option (Nat × LV) := match ops[j]? with
  | some o => (match o.dst with
    | some d => (match look e d with
      | some (some (.t (.l v))) => some (d, v)
      | _ => none)
    | none => none)
  | none => none

def denOps (X : Ctx) (n : Nat) (all : List Oper) : List Oper → Env → Heap → (Env → Heap → Prop) → Prop
  | [], e, h, K => K e h
  | o :: r, e, h, K => bif okDst n o.dst then (match o.guard with
    | none => den1 X o e h fun v h' => nameH (namesH o.op) h' fun h' => denOps X n all r (putE e o.dst v) h' K
    | some (j, want) => (match guardOf all e j with
      | some (_, .lit b) => (match b, want with
        | true, true => den1 X o e h fun v h' => nameH (namesH o.op) h' fun h' => denOps X n all r (putE e o.dst v) h' K
        | false, false => den1 X o e h fun v h' => nameH (namesH o.op) h' fun h' => denOps X n all r (putE e o.dst v) h' K
        | _, _ => denOps X n all r (putE e o.dst (.t (.l .un))) h K)
      | some (_, .un) => denOps X n all r (putE e o.dst (.t (.l .un))) h K
      | some (d, .bool b) =>
        (b = want → den1 X o (putE e (some d) (.t (.l (.lit want)))) h fun v h' => nameH (namesH o.op) h' fun h' => denOps X n all r (putE (putE e (some d) (.t (.l (.lit want)))) o.dst v) h' K) ∧
        (b = !want → denOps X n all r (putE (putE e (some d) (.t (.l (.lit (!want))))) o.dst (.t (.l .un))) h K)
      | _ => False)) else False

theorem yielded_of {ops : Array Oper} {e : Env} {a : Act} (ha : Agree e a) {j d : Nat} {v : LV} (hg : guardOf ops.toList e j = some (d, v)) {b : Bool} (hv : v.val = .bool b) :
    yielded ops a.tmps j = some b ∧ look e d = some (some (.t (.l v))) := by
  unfold guardOf at hg
  split at hg
  · rename_i o ho
    split at hg
    · rename_i d' hd'
      split at hg
      · rename_i u hu
        injection hg with hg
        simp only [Prod.mk.injEq] at hg
        obtain ⟨rfl, rfl⟩ := hg
        have ho' : ops[j]? = some o := by simpa using ho
        obtain ⟨h1, h2⟩ := ha _ _ hu
        refine ⟨?_, hu⟩
        unfold yielded
        rw [ho']
        simp only [Option.bind_some, hd']
        have h3 : a.tmps[d']? = some (.bool b) := by
          rw [Array.getElem?_eq_getElem h2]
          rw [Array.getD_eq_getD_getElem?, Array.getElem?_eq_getElem h2] at h1
          simp only [Option.getD_some] at h1
          rw [h1]; exact congrArg some hv
        rw [h3]
      · cases hg
    · cases hg
  · cases hg

theorem yielded_un {ops : Array Oper} {e : Env} {a : Act} (ha : Agree e a) {j d : Nat} (hg : guardOf ops.toList e j = some (d, .un)) : yielded ops a.tmps j = none := by
  unfold guardOf at hg
  split at hg
  · rename_i o ho
    split at hg
    · rename_i d' hd'
      split at hg
      · rename_i u hu
        injection hg with hg
        simp only [Prod.mk.injEq] at hg
        obtain ⟨rfl, rfl⟩ := hg
        have ho' : ops[j]? = some o := by simpa using ho
        obtain ⟨h1, h2⟩ := ha _ _ hu
        unfold yielded
        rw [ho']
        simp only [Option.bind_some, hd']
        have h3 : a.tmps[d']? = some undef := by
          rw [Array.getElem?_eq_getElem h2]
          rw [Array.getD_eq_getD_getElem?, Array.getElem?_eq_getElem h2] at h1
          simp only [Option.getD_some] at h1
          rw [h1]; rfl
        rw [h3]
        rfl
      · cases hg
    · cases hg
  · cases hg

theorem Agree.lit {e : Env} {a : Act} (ha : Agree e a) {d : Nat} {v : LV} {b : Bool} (hl : look e d = some (some (.t (.l v)))) (hv : v.val = .bool b) : Agree (putE e (some d) (.t (.l (.lit b)))) a := by
  intro t u hu
  simp only [putE, look_cons] at hu
  split at hu
  · rename_i heq
    subst heq
    injection hu with hu
    injection hu with hu
    subst hu
    obtain ⟨h1, h2⟩ := ha _ _ hl
    exact ⟨h1.trans hv, h2⟩
  · exact ha t u hu

/-- The slots that operations write. -/
def dstsOf : List Oper → List Nat
  | [] => []
  | o :: r => match o.dst with
    | some d => d :: dstsOf r
    | none => dstsOf r

/-- What stays of the frame. -/
def Keeps (ds : List Nat) (a a' : Act) : Prop := a'.tmps.size = a.tmps.size ∧ a'.defers = a.defers ∧ ∀ s, s ∉ ds → a'.tmps[s]? = a.tmps[s]?
theorem Keeps.refl (ds : List Nat) (a : Act) : Keeps ds a a := ⟨rfl, rfl, fun _ _ => rfl⟩
theorem Keeps.trans {ds : List Nat} {a b c : Act} (h : Keeps ds a b) (k : Keeps ds b c) : Keeps ds a c :=
  ⟨k.1.trans h.1, k.2.1.trans h.2.1, fun s hs => (k.2.2 s hs).trans (h.2.2 s hs)⟩
theorem Keeps.mono {ds ds' : List Nat} {a b : Act} (h : Keeps ds a b) (hd : ∀ s, s ∈ ds → s ∈ ds') : Keeps ds' a b :=
  ⟨h.1, h.2.1, fun s hs => h.2.2 s fun hm => hs (hd s hm)⟩
theorem Keeps.put {ds : List Nat} (a : Act) {d : Option Tmp} (hd : ∀ t, d = some t → t ∈ ds) (v : Value) : Keeps ds a (a.put d v) := by
  refine ⟨put_size a d v, put_defers a d v, fun s hs => ?_⟩
  cases d with
  | none => rfl
  | some d =>
    have hne : d ≠ s := fun h => hs (h ▸ hd d rfl)
    simp [Act.put, Array.getElem?_setIfInBounds_ne hne]

theorem denOps_sound {X : Ctx} (hX : X.Ok) {ops : Array Oper} (ds : List Nat) : ∀ (l : List Oper) (k : Nat) (e : Env) (a : Act) (w : World) (K : Env → Heap → Prop) (Q : Exit → Act → World → Prop),
    (∀ j, l[j]? = ops[k + j]?) → (∀ s ∈ dstsOf l, s ∈ ds) → Agree e a → denOps X a.tmps.size ops.toList l e w.heap K →
    (∀ e' a' w', Agree e' a' → Keeps ds a a' → Same w w' → K e' w'.heap → Q .normal a' w') →
    wpOps X.P ops Q ((List.range' k l.length)) a w
  | [], k, e, a, w, K, Q, _, _, ha, hd, hQ => hQ e a w ha (Keeps.refl _ _) (Same.refl w) hd
  | o :: r, k, e, a, w, K, Q, hl, hds, ha, hd, hQ => by
    have ho : ops[k]? = some o := by have := hl 0; simpa using this.symm
    have hdo : ∀ t, o.dst = some t → t ∈ ds := fun t ht => hds t (by unfold dstsOf; rw [ht]; simp)
    have hdr : ∀ s ∈ dstsOf r, s ∈ ds := fun s hs => hds s (by unfold dstsOf; split <;> simp [hs])
    have hlr : ∀ j, r[j]? = ops[k + 1 + j]? := fun j => by
      have := hl (j + 1)
      simp only [List.getElem?_cons_succ] at this
      rw [this]; congr 1; omega
    unfold denOps at hd
    cases hok : okDst a.tmps.size o.dst with
    | false => rw [hok] at hd; exact hd.elim
    | true =>
      rw [hok] at hd
      simp only [cond_true] at hd
      have step : ∀ e1, Agree e1 a → den1 X o e1 w.heap (fun v h' => nameH (namesH o.op) h' fun h' => denOps X a.tmps.size ops.toList r (putE e1 o.dst v) h' K) → o.wp X.P a w (wpOps X.P ops Q (List.range' (k + 1) r.length)) Q := by
        intro e1 ha1 hd1
        refine den1_sound hX ha1 hd1 w rfl _ _ ?_
        intro v w' hs hK
        have hK := nameH_of hK
        refine denOps_sound hX ds r (k + 1) (putE e1 o.dst v) (a.put o.dst v.val) w' K Q hlr hdr (ha1.put hok v) (by rw [put_size]; exact hK) ?_
        intro e' a' w'' h1 h2 h3 h4
        exact hQ e' a' w'' h1 ((Keeps.put a hdo _).trans h2) (hs.trans h3) h4
      have skip : ∀ e1, Agree e1 a → denOps X a.tmps.size ops.toList r (putE e1 o.dst (.t (.l .un))) w.heap K → wpOps X.P ops Q (List.range' (k + 1) r.length) (a.put o.dst undef) w := by
        intro e1 ha1 hd1
        refine denOps_sound hX ds r (k + 1) (putE e1 o.dst (.t (.l .un))) (a.put o.dst undef) w K Q hlr hdr (ha1.put hok (.t (.l .un))) (by rw [put_size]; exact hd1) ?_
        intro e' a' w'' h1 h2 h3 h4
        exact hQ e' a' w'' h1 ((Keeps.put a hdo _).trans h2) h3 h4
      rw [List.length_cons, List.range'_succ]
      simp only [wpOps, ho]
      cases hg : o.guard with
      | none =>
        rw [hg] at hd
        rw [if_pos (by simp [Region.wanted, hg])]
        exact .inl (step e ha hd)
      | some g =>
        obtain ⟨j, want⟩ := g
        rw [hg] at hd
        dsimp only at hd
        split at hd
        · rename_i d b hgo
          obtain ⟨hy, _⟩ := yielded_of ha hgo (b := b) rfl
          have hw : Region.wanted o (yielded ops a.tmps) = (b == want) := by simp [Region.wanted, hg, hy]
          split at hd
          · rw [if_pos (by rw [hw]; rfl)]; exact .inl (step e ha hd)
          · rw [if_pos (by rw [hw]; rfl)]; exact .inl (step e ha hd)
          · rename_i h1 h2
            have : (b == want) = false := by cases b <;> cases want <;> simp at h1 h2 ⊢
            rw [if_neg (by rw [hw, this]; simp)]
            exact skip e ha hd
        · rename_i d hgo
          have hw : Region.wanted o (yielded ops a.tmps) = false := by
            simp [Region.wanted, hg, yielded_un ha hgo]
          rw [if_neg (by rw [hw]; simp)]
          exact skip e ha hd
        · rename_i d b hgo
          obtain ⟨hy, hl'⟩ := yielded_of ha hgo (b := b) rfl
          have hw : Region.wanted o (yielded ops a.tmps) = (b == want) := by simp [Region.wanted, hg, hy]
          by_cases hb : b = want
          · rw [if_pos (by rw [hw, hb]; simp)]
            exact .inl (step _ (ha.lit hl' (by rw [← hb]; rfl)) (hd.1 hb))
          · have hb' : b = !want := by cases b <;> cases want <;> simp at hb ⊢
            rw [if_neg (by rw [hw]; simpa using hb)]
            exact skip _ (ha.lit hl' (by rw [← hb']; rfl)) (hd.2 hb')
        · exact hd.elim
end Go.Proofs.Ytjmhahjmbmiepaa.D
