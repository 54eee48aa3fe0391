/- Statements, functions. -/
import Derived.Test.YtjmhahjmbmiepaaDenL
namespace Go.Proofs.Ytjmhahjmbmiepaa.D
open Go

inductive Plan where
  | leaf | seq (j : Option (List (Nat × VT))) (p q : Plan) | cond (p q : Plan) | block (p : Plan) | loop (car : List (Nat × VT)) (p : Plan) | draw (order : DT)

def modsC : Code → List Nat
  | .region _ ops _ => dstsOf ops.toList
  | .seq a b => modsC a ++ modsC b
  | .cond _ a b => modsC a ++ modsC b
  | .block _ c => modsC c
  | .loop c => modsC c
  | _ => []

def fitL : Leaf → LV → Bool
  | .int k, .int k' _ => decide (k = k')
  | .bool, .bool _ => true
  | .bool, .lit _ => true
  | .str, .str _ => true
  | .slice, .sl _ _ _ => true
  | .slice, .slB _ _ _ _ => true
  | .ptr, .ptr _ => true
  | .ptr, .ptrB _ _ => true
  | .ptrN, .ptrB _ _ => true
  | .func, .any _ => true
  | .func, .fn _ _ => true
  | .iface, .any _ => true
  | _, _ => false
def fitLs : List Leaf → List LV → Bool
  | [], [] => true
  | l :: ls, v :: vs => fitL l v && fitLs ls vs
  | _, _ => false
def fitT : VT → TV → Bool
  | .l l, .l v => fitL l v
  | .agg ls, .agg vs => fitLs ls vs
  | _, _ => false

theorem fitL_of {l : Leaf} {v : LV} (hf : fitL l v = true) {K : LV → Prop} (h : l.all K) : ∃ v', v'.val = v.val ∧ K v' := by
  cases l <;> cases v <;> simp [fitL] at hf
  all_goals first
    | (subst hf; exact ⟨_, rfl, h _⟩)
    | exact ⟨_, rfl, h _ _ _⟩
    | exact ⟨_, rfl, h _⟩
    | exact ⟨.sl _ _ _, rfl, h _ _ _⟩
    | exact ⟨.bool _, rfl, h _⟩
    | exact ⟨.ptr _, rfl, h _⟩
    | exact ⟨.ptrB _ _, rfl, h _ _⟩
    | exact ⟨.any _, rfl, h _⟩

/-- 'vs' is of these kinds: what holds of all such holds of it. -/
def TypedL (ls : List Leaf) (vs : List LV) : Prop := ∀ F : List LV → Prop, allL ls F → F vs
theorem fitLs_of : ∀ {ls : List Leaf} {vs : List LV}, fitLs ls vs = true → ∃ us : List LV, us.map LV.val = vs.map LV.val ∧ TypedL ls us
  | [], [], _ => ⟨[], rfl, fun _ h => h⟩
  | [], _ :: _, h => by cases h
  | _ :: _, [], h => by cases h
  | l :: ls, v :: vs, h => by
    simp only [fitLs, Bool.and_eq_true] at h
    obtain ⟨us, h1, h2⟩ := fitLs_of h.2
    have h3 : ∃ u : LV, u.val = v.val ∧ ∀ F : LV → Prop, l.all F → F u := by
      have hf := h.1
      cases l <;> cases v <;> simp [fitL] at hf
      all_goals first
        | (subst hf; exact ⟨.int _ _, rfl, fun F h => h _⟩)
        | exact ⟨.bool _, rfl, fun F h => h _⟩
        | exact ⟨.str _, rfl, fun F h => h _⟩
        | exact ⟨.sl _ _ _, rfl, fun F h => h _ _ _⟩
        | exact ⟨.ptr _, rfl, fun F h => h _⟩
        | exact ⟨.ptrB _ _, rfl, fun F h => h _ _⟩
        | exact ⟨.any _, rfl, fun F h => h _⟩
    obtain ⟨u, h4, h5⟩ := h3
    exact ⟨u :: us, by simp [h1, h4], fun F hF => h2 _ (h5 _ hF)⟩
def TypedT (t : VT) (v : TV) : Prop := ∀ F : TV → Prop, t.all F → F v
theorem fitT_of {t : VT} {v : TV} (h : fitT t v = true) : ∃ u : TV, u.val = v.val ∧ TypedT t u := by
  cases t with
  | l lf =>
    cases v with
    | l v =>
      have h1 : fitLs [lf] [v] = true := by simpa [fitLs, fitT] using h
      obtain ⟨us, h2, h3⟩ := fitLs_of h1
      obtain ⟨u, rfl⟩ : ∃ u, us = [u] := by
        cases us with
        | nil => cases h2
        | cons u r =>
          cases r with
          | nil => exact ⟨u, rfl⟩
          | cons _ _ => simp at h2
      refine ⟨.l u, by simpa [TV.val] using h2, fun F hF => ?_⟩
      exact h3 (fun us => match us with | [u] => F (.l u) | _ => True) hF
    | agg _ => cases h
  | agg ls =>
    cases v with
    | l _ => cases h
    | agg vs =>
      obtain ⟨us, h2, h3⟩ := fitLs_of h
      exact ⟨.agg us, by simp [TV.val, h2], fun F hF => h3 (fun us => F (.agg us)) hF⟩

abbrev Car := List (Nat × VT)
def kat : Car → Env → (List Value → Prop) → Prop
  | [], _, K => K []
  | (s, t) :: r, e, K => match look e s with
    | some (some (.t v)) => bif fitT t v then kat r e fun vs => K (v.val :: vs) else False
    | _ => False
def allC : Car → (List TV → Prop) → Prop
  | [], K => K []
  | (_, t) :: r, K => t.all fun v => allC r fun vs => K (v :: vs)
def Typed (car : Car) (vs : List TV) : Prop := ∀ F : List TV → Prop, allC car F → F vs
/-- The frame holds 'vs' at these slots. -/
def Holds (a : Act) : Car → List TV → Prop
  | [], [] => True
  | (s, _) :: r, v :: vs => (a.tmps.getD s undef = v.val ∧ s < a.tmps.size) ∧ Holds a r vs
  | _, _ => False

theorem kat_of {e : Env} {a : Act} (ha : Agree e a) : ∀ {car : Car} {K : List Value → Prop}, kat car e K → ∃ vs : List TV, Typed car vs ∧ Holds a car vs ∧ K (vs.map TV.val)
  | [], _, h => ⟨[], fun _ h => h, trivial, h⟩
  | (s, t) :: r, K, h => by
    unfold kat at h
    split at h
    · rename_i v hv
      cases hf : fitT t v with
      | false => rw [hf] at h; exact h.elim
      | true =>
        rw [hf] at h
        obtain ⟨vs, h1, h2, h3⟩ := kat_of ha h
        obtain ⟨u, h4, h5⟩ := fitT_of hf
        refine ⟨u :: vs, fun F hF => h1 _ (h5 _ hF), ⟨?_, h2⟩, by rw [List.map_cons, h4]; exact h3⟩
        rw [h4]
        exact ha _ _ hv
    · exact h.elim

def zipC : Car → List TV → Env
  | (s, _) :: r, v :: vs => (s, some (.t v)) :: zipC r vs
  | _, _ => []
def rebind (e : Env) (mods : List Nat) (car : Car) (vs : List TV) : Env := zipC car vs ++ (mods.map (fun s => (s, none)) ++ e)

theorem look_append {β : Type} : ∀ (l r : List (Nat × β)) (s : Nat), look (l ++ r) s = match look l s with | some v => some v | none => look r s
  | [], r, s => rfl
  | (k, v) :: l, r, s => by
    rw [List.cons_append, look_cons, look_cons]
    by_cases h : k = s
    · rw [if_pos h, if_pos h]
    · rw [if_neg h, if_neg h, look_append l r s]
theorem look_none : ∀ (mods : List Nat) (s : Nat), look (mods.map fun s => (s, (none : Option SV))) s = if s ∈ mods then some none else none
  | [], s => rfl
  | m :: ms, s => by
    rw [List.map_cons, look_cons, look_none ms s]
    by_cases h : m = s
    · subst h; simp
    · rw [if_neg h]
      by_cases h2 : s ∈ ms
      · simp [h2]
      · have : s ∉ m :: ms := by simp [h2]; exact fun hh => h hh.symm
        simp [h2, this]
theorem zipC_of {a : Act} : ∀ {car : Car} {vs : List TV}, Holds a car vs → ∀ t v, look (zipC car vs) t = some v → ∃ u : SV, v = some u ∧ a.tmps.getD t undef = u.val ∧ t < a.tmps.size
  | [], _, _, t, v, h => by simp [zipC, look] at h
  | (s, _) :: r, [], hh, t, v, h => by cases hh
  | (s, ty) :: r, u :: us, hh, t, v, h => by
    simp only [zipC, look_cons] at h
    split at h
    · rename_i hst
      subst hst
      injection h with h
      subst h
      exact ⟨_, rfl, hh.1.1, hh.1.2⟩
    · exact zipC_of hh.2 t v h

theorem Agree.rebind {e : Env} {a a' : Act} (ha : Agree e a) {mods : List Nat} (hk : Keeps mods a a') {car : Car} {vs : List TV} (hh : Holds a' car vs) : Agree (rebind e mods car vs) a' := by
  intro t v h
  unfold D.rebind at h
  rw [look_append] at h
  cases h1 : look (zipC car vs) t with
  | some u =>
    rw [h1] at h
    injection h with h
    obtain ⟨u', h2, h3, h4⟩ := zipC_of hh t u h1
    rw [h] at h2
    injection h2 with h2
    subst h2
    exact ⟨h3, h4⟩
  | none =>
    rw [h1] at h
    simp only at h
    rw [look_append, look_none] at h
    by_cases hm : t ∈ mods
    · rw [if_pos hm] at h; simp at h
    · rw [if_neg hm] at h
      simp only at h
      obtain ⟨h2, h3⟩ := ha t v h
      refine ⟨?_, by rw [hk.1]; exact h3⟩
      rw [← h2]
      rw [Array.getD_eq_getD_getElem?, Array.getD_eq_getD_getElem?, hk.2.2 t hm]

/-! ### Statements -/

def denC (X : Ctx) (n : Nat) : Code → Plan → Env → Heap → (Exit → Env → Heap → Prop) → Prop
  | .skip, _, e, h, Q => Q .normal e h
  | .exit id, _, e, h, Q => Q (.exit id) e h
  | .ret, _, e, h, Q => Q .ret e h
  | .region _ ops d, p, e, h, Q => (match d, p with
    | false, _ => denOps X n ops.toList ops.toList e h fun e' h' => Q .normal e' h'
    | true, .draw order => bif Region.noSelect ops && Nat.ble order.size ops.size then denDraw X n ops order false (Array.replicate ops.size false) [] e h fun e' h' => Q .normal e' h' else False
    | _, _ => False)
  | .seq a b, p, e, h, Q => (match p with
    | .seq none p q => denC X n a p e h fun ex e' h' => (match ex with
      | .normal => denC X n b q e' h' Q
      | ex => Q ex e' h')
    | .seq (some car) p q => ∀ K : List Value → Heap → Prop, (∀ h', allC car fun vs => denC X n b q (rebind e (modsC a) car vs) h' Q → K (vs.map TV.val) h') →
      denC X n a p e h fun ex e' h' => (match ex with
      | .normal => kat car e' fun vs => K vs h'
      | ex => Q ex e' h')
    | _ => False)
  | .cond c a b, p, e, h, Q => (match p with
    | .cond p q => withL (rho e c) fun v => (match v with
      | .lit t => (match t with
        | true => denC X n a p e h Q
        | false => denC X n b q e h Q)
      | .bool t => (t = true → denC X n a p e h Q) ∧ (t = false → denC X n b q e h Q)
      | _ => False)
    | _ => False)
  | .block id c, p, e, h, Q => (match p with
    | .block p => denC X n c p e h fun ex e' h' => (match ex with
      | .exit id' => bif Nat.beq id' id then Q .normal e' h' else Q (.exit id') e' h'
      | ex => Q ex e' h')
    | _ => False)
  | .loop c, p, e, h, Q => (match p with
    | .loop car p => ∃ (I : List Value → Heap → Prop) (μ : List Value → Heap → Nat), kat car e (fun vs => I vs h) ∧
      ∀ h', allC car fun vs => I (vs.map TV.val) h' → denC X n c p (rebind e (modsC c) car vs) h' fun ex e' h'' => (match ex with
        | .normal => kat car e' fun us => I us h'' ∧ μ us h'' < μ (vs.map TV.val) h'
        | ex => Q ex e' h'')
    | _ => False)
  | _, _, _, _, _ => False

theorem holds_map {a : Act} : ∀ {car : Car} {vs : List TV}, Holds a car vs → car.map (fun p => a.tmps.getD p.1 undef) = vs.map TV.val
  | [], [], _ => rfl
  | [], _ :: _, h => by cases h
  | _ :: _, [], h => by cases h
  | (s, t) :: r, v :: vs, h => by
    rw [List.map_cons, List.map_cons, holds_map h.2, h.1.1]

theorem Leaf.all_intro {l : Leaf} {K : LV → Prop} (h : ∀ v, K v) : l.all K := by cases l <;> first | exact (fun _ => h _) | exact (fun _ _ => h _) | exact (fun _ _ _ => h _)
theorem allL_intro : ∀ {ls : List Leaf} {K : List LV → Prop}, (∀ vs, K vs) → allL ls K
  | [], _, h => h _
  | _ :: _, _, h => Leaf.all_intro fun _ => allL_intro fun _ => h _
theorem VT.all_intro {t : VT} {K : TV → Prop} (h : ∀ v, K v) : t.all K := by
  cases t with
  | l lf => exact Leaf.all_intro fun _ => h _
  | agg ls => exact allL_intro fun _ => h _
theorem allC_intro : ∀ {car : Car} {F : List TV → Prop}, (∀ vs, F vs) → allC car F
  | [], _, h => h _
  | _ :: _, _, h => VT.all_intro fun _ => allC_intro fun _ => h _
theorem holds_congr {a : Act} : ∀ {car : Car} {vs us : List TV}, Holds a car us → us.map TV.val = vs.map TV.val → Holds a car vs
  | [], [], [], _, _ => trivial
  | [], [], _ :: _, h, _ => by cases h
  | [], _ :: _, [], _, h => by cases h
  | [], _ :: _, _ :: _, h, _ => by cases h
  | _ :: _, _, [], h, _ => by cases h
  | _ :: _, [], _ :: _, _, h => by cases h
  | (s, t) :: r, v :: vs, u :: us, h, he => by
    simp only [List.map_cons, List.cons.injEq] at he
    exact ⟨⟨h.1.1.trans he.1, h.1.2⟩, holds_congr h.2 he.2⟩

theorem denC_sound {X : Ctx} (hX : X.Ok) : ∀ (c : Code) (p : Plan) (e : Env) (a : Act) (w : World) (Q : Exit → Env → Heap → Prop) (R : Exit → Act → World → Prop),
    Agree e a → denC X a.tmps.size c p e w.heap Q →
    (∀ ex e' a' w', Agree e' a' → Keeps (modsC c) a a' → Same w w' → Q ex e' w'.heap → R ex a' w') → c.wp X.P R a w := by
  intro c
  induction c with
  | skip =>
    intro p e a w Q R ha hd hR
    unfold denC at hd
    exact wp_skip (hR _ e a w ha (Keeps.refl _ _) (Same.refl w) hd)
  | exit id =>
    intro p e a w Q R ha hd hR
    unfold denC at hd
    exact wp_exit (hR _ e a w ha (Keeps.refl _ _) (Same.refl w) hd)
  | ret =>
    intro p e a w Q R ha hd hR
    unfold denC at hd
    exact wp_ret (hR _ e a w ha (Keeps.refl _ _) (Same.refl w) hd)
  | region id ops d =>
    intro p e a w Q R ha hd hR
    unfold denC at hd
    split at hd
    · refine wp_region ?_
      have := denOps_sound hX (ops := ops) (modsC (.region id ops false)) ops.toList 0 e a w _ R (by simp) (fun s hs => hs) ha hd (fun e' a' w' h1 h2 h3 h4 => hR _ e' a' w' h1 h2 h3 h4)
      rw [List.range_eq_range']
      simpa using this
    · rename_i order
      cases hs : (Region.noSelect ops && Nat.ble order.size ops.size) with
      | false => rw [hs] at hd; exact hd.elim
      | true =>
        rw [hs] at hd
        simp only [cond_true] at hd
        simp only [Bool.and_eq_true] at hs
        obtain ⟨hs, hlen⟩ := hs
        have hlen := Nat.le_of_ble_eq_true hlen
        have hds : ∀ (i : Nat) o, ops[i]? = some o → ∀ t, o.dst = some t → t ∈ dstsOf ops.toList := by
          intro i o ho t ht
          have hm : o ∈ ops.toList := by
            have := Array.mem_of_getElem? ho
            simpa using this
          clear hd ho
          generalize ops.toList = l at hm
          induction l with
          | nil => cases hm
          | cons x xs ih =>
            unfold dstsOf
            rcases List.mem_cons.1 hm with rfl | hm
            · rw [ht]; exact List.mem_cons_self
            · split
              · exact List.mem_cons_of_mem _ (ih hm)
              · exact ih hm
        refine wp_mono (Q := fun ex a' w' => match ex with | .normal => R .normal a' w' | _ => False) ?_ ?_
        · refine wp_region_any hX.mixed (wpAny_of_S (S := SW X.T ops []) _ _ _ _ ?_)
          refine (denDraw_sound hX hs (dstsOf ops.toList) hds order false _ [] [] e a { w with drawn := w.drawn + 1 } _ _ ops.size hlen (by simp) ?_ (by intro x hx; cases hx) (by intro x hx; cases hx) ha hd (fun c a w h => h) ?_).1 rfl
          · intro j oj _ hl
            rcases Nat.lt_or_ge j ops.size with h' | h'
            · simp [h'] at hl
            · simp [h'] at hl
          · intro e' a' w' h1 h2 h3 h4
            exact hR _ e' a' w' h1 h2 h3 h4
        · intro ex a' w' h
          cases ex <;> first | exact h | exact h.elim
    · exact hd.elim
  | seq x y ihx ihy =>
    intro p e a w Q R ha hd hR
    unfold denC at hd
    split at hd
    · rename_i p q
      refine wp_seq (ihx p e a w _ _ ha hd ?_)
      intro ex e' a' w' h1 h2 h3 h4
      have hk : Keeps (modsC (.seq x y)) a a' := h2.mono fun s hs => List.mem_append_left _ hs
      cases ex with
      | normal =>
        refine ihy q e' a' w' Q R h1 (by rw [h2.1]; exact h4) ?_
        intro ex e'' a'' w'' g1 g2 g3 g4
        exact hR ex e'' a'' w'' g1 (hk.trans (g2.mono fun s hs => List.mem_append_right _ hs)) (h3.trans g3) g4
      | _ => exact hR _ e' a' w' h1 hk h3 h4
    · rename_i car p q
      refine wp_seq ?_
      have hd' := hd (fun vals h' => ∀ a' w', w'.heap = h' → Keeps (modsC x) a a' → Same w w' → (∃ vs : List TV, Holds a' car vs ∧ vs.map TV.val = vals) → y.wp X.P R a' w') ?_
      · refine ihx p e a w _ _ ha hd' ?_
        intro ex e' a' w' h1 h2 h3 h4
        have hk : Keeps (modsC (.seq x y)) a a' := h2.mono fun s hs => List.mem_append_left _ hs
        cases ex with
        | normal =>
          obtain ⟨vs, g1, g2, g3⟩ := kat_of h1 h4
          exact g3 a' w' rfl h2 h3 ⟨vs, g2, rfl⟩
        | _ => exact hR _ e' a' w' h1 hk h3 h4
      · intro h'
        refine allC_intro fun vs hden => ?_
        intro a' w' hw hk hs hv
        obtain ⟨us, g1, g2⟩ := hv
        have hh : Holds a' car vs := holds_congr g1 g2
        subst hw
        refine ihy q _ a' w' Q R (ha.rebind hk hh) (by rw [hk.1]; exact hden) ?_
        intro ex e'' a'' w'' k1 k2 k3 k4
        exact hR ex e'' a'' w'' k1 ((hk.mono fun s hs => List.mem_append_left _ hs).trans (k2.mono fun s hs => List.mem_append_right _ hs)) (hs.trans k3) k4
    · exact hd.elim
  | cond c x y ihx ihy =>
    intro p e a w Q R ha hd hR
    unfold denC at hd
    split at hd
    · rename_i p q
      obtain ⟨v, hv, hd⟩ := withL_of hd
      have he := rho_sound ha hv
      split at hd
      · split at hd
        · exact wp_cond (t := true) he (ihx p e a w Q R ha hd fun ex e' a' w' h1 h2 h3 h4 => hR ex e' a' w' h1 (h2.mono fun s hs => List.mem_append_left _ hs) h3 h4)
        · exact wp_cond (t := false) he (ihy q e a w Q R ha hd fun ex e' a' w' h1 h2 h3 h4 => hR ex e' a' w' h1 (h2.mono fun s hs => List.mem_append_right _ hs) h3 h4)
      · rename_i t
        refine wp_cond_split (t := t) he (fun ht => ?_) (fun ht => ?_)
        · exact ihx p e a w Q R ha (hd.1 ht) fun ex e' a' w' h1 h2 h3 h4 => hR ex e' a' w' h1 (h2.mono fun s hs => List.mem_append_left _ hs) h3 h4
        · exact ihy q e a w Q R ha (hd.2 ht) fun ex e' a' w' h1 h2 h3 h4 => hR ex e' a' w' h1 (h2.mono fun s hs => List.mem_append_right _ hs) h3 h4
      · exact hd.elim
    · exact hd.elim
  | block id x ih =>
    intro p e a w Q R ha hd hR
    unfold denC at hd
    split at hd
    · rename_i p
      refine wp_block (ih p e a w _ _ ha hd ?_)
      intro ex e' a' w' h1 h2 h3 h4
      cases ex with
      | exit id' =>
        simp only at h4
        show if id' = id then R .normal a' w' else R (.exit id') a' w'
        by_cases hid : id' = id
        · subst hid
          rw [if_pos rfl]
          have : Nat.beq id' id' = true := Nat.beq_refl id'
          rw [this] at h4
          exact hR _ e' a' w' h1 h2 h3 h4
        · rw [if_neg hid]
          have : Nat.beq id' id = false := by
            cases hb : Nat.beq id' id with
            | true => exact absurd (Nat.eq_of_beq_eq_true hb) hid
            | false => rfl
          rw [this] at h4
          exact hR _ e' a' w' h1 h2 h3 h4
      | _ => exact hR _ e' a' w' h1 h2 h3 h4
    · exact hd.elim
  | loop x ih =>
    intro p e a w Q R ha hd hR
    unfold denC at hd
    split at hd
    · rename_i car p
      obtain ⟨I, μ, h0, hround⟩ := hd
      refine wp_loop (fun a' w' => Keeps (modsC x) a a' ∧ Same w w' ∧ ∃ vs : List TV, Typed car vs ∧ Holds a' car vs ∧ I (vs.map TV.val) w'.heap) (fun a' w' => μ (car.map fun p => a'.tmps.getD p.1 undef) w'.heap) ?_ ?_
      · obtain ⟨vs, g1, g2, g3⟩ := kat_of ha h0
        exact ⟨Keeps.refl _ _, Same.refl w, vs, g1, g2, g3⟩
      · rintro a' w' ⟨hk, hs, vs, g1, g2, g3⟩
        have hd := g1 _ (hround w'.heap) g3
        refine ih p _ a' w' _ _ (ha.rebind hk g2) (by rw [hk.1]; exact hd) ?_
        intro ex e' a'' w'' h1 h2 h3 h4
        cases ex with
        | normal =>
          obtain ⟨us, k1, k2, k3, k4⟩ := kat_of h1 h4
          refine ⟨⟨hk.trans h2, hs.trans h3, us, k1, k2, k3⟩, ?_⟩
          rw [holds_map k2, holds_map g2]
          exact k4
        | _ => exact hR _ e' a'' w'' h1 (hk.trans h2) (hs.trans h3) h4
    · exact hd.elim
  | _ => intro p e a w Q R ha hd hR; unfold denC at hd; exact hd.elim

/-! ### Functions -/

def argsE : Nat → List TV → Env
  | _, [] => []
  | i, v :: vs => (i, some (.t v)) :: argsE (i + 1) vs
def resD (T : Types) : List ResultVar → Env → Heap → (List Value → Prop) → Prop
  | [], _, _, K => K []
  | .tmp t :: r, e, h, K => (match look e t with
    | some (some v) => resD T r e h fun vs => K (v.val :: vs)
    | _ => False)
  | .cell x t :: r, e, h, K => withL (rho e (.tmp x)) fun p => denLoad T t p h fun v _ => resD T r e h fun vs => K (v.val :: vs)
def oneOf : List Value → Value
  | [v] => v
  | vs => .tuple ⟨vs⟩
def denF (X : Ctx) (fn : Func) (c : Code) (p : Plan) (args : List TV) (h : Heap) (R : Value → Heap → Prop) : Prop :=
  bif Nat.ble args.length fn.ntmps then denC X fn.ntmps c p (argsE 0 args) h fun ex e' h' => (match ex with
    | .normal => resD X.T fn.results.toList e' h' fun vs => R (oneOf vs) h'
    | .ret => resD X.T fn.results.toList e' h' fun vs => R (oneOf vs) h'
    | _ => False) else False

theorem argsE_agree {a : Act} : ∀ (vs : List TV) (i : Nat), (∀ j v, vs[j]? = some v → a.tmps.getD (i + j) undef = v.val ∧ i + j < a.tmps.size) → Agree (argsE i vs) a
  | [], i, _ => fun t v h => by simp [argsE, look] at h
  | u :: us, i, hv => fun t v h => by
    simp only [argsE, look_cons] at h
    split at h
    · rename_i hit
      subst hit
      injection h with h
      injection h with h
      subst h
      exact hv 0 u rfl
    · refine argsE_agree us (i + 1) (fun j v hj => ?_) t v h
      have := hv (j + 1) v (by simpa using hj)
      rw [show i + 1 + j = i + (j + 1) from by omega]; exact this

theorem SOk.same {α : Type} {P : Program} {s : Sem α} {h : Heap} {K : α → Heap → Prop} (k : SOk true P s h K) : SOk true P s h fun v h' => h' = h ∧ K v h' := by
  intro w hw
  obtain ⟨v, w', h1, h2, h3, h4⟩ := k w hw
  exact ⟨v, w', h1, h2, h3, by rw [h3 rfl]; exact hw, h4⟩
theorem resD_sound {P : Program} {T : Types} (hT : TOk P T) {e : Env} {a : Act} (ha : Agree e a) {h : Heap} : ∀ (rs : List ResultVar) {K : List Value → Prop}, resD T rs e h K →
    SOk true P (rs.mapM fun r => match r with | .tmp t => Pure.pure (a.tmps.getD t undef) | .cell x t => do loadVar t (← asAddr (a.tmps.getD x undef))) h fun vs _ => K vs
  | [], K, hd => SOk.pure hd
  | .tmp t :: r, K, hd => by
    unfold resD at hd
    split at hd
    · rename_i v hv
      rw [List.mapM_cons]
      have := (ha t v hv).1
      simp only [this]
      refine SOk.bind (SOk.pure (SOk.bind ((resD_sound hT ha r hd).mono fun vs h' hk => ?_)))
      exact SOk.pure hk
    · exact hd.elim
  | .cell x t :: r, K, hd => by
    unfold resD at hd
    obtain ⟨p, hp, hd⟩ := withL_of hd
    have he : a.tmps.getD x undef = p.val := rho_sound ha hp
    rw [List.mapM_cons]
    simp only [he]
    have hd0 := hd
    unfold denLoad at hd0
    split at hd0
    · obtain ⟨b, o, rfl, _⟩ := withP_of hd0
      have hl := denLoad_sound (xf := true) hT hd
      unfold Instr.loadAt at hl
      have e1 : (do loadVar t (← asAddr (LV.ptrB b o).val) : Sem Value) = (do loadVar t (← Instr.sureAddr (LV.ptrB b o).val)) := rfl
      rw [e1]
      refine SOk.bind (hl.same.mono ?_)
      rintro v h' ⟨rfl, sv, rfl, hk⟩
      refine SOk.bind ((resD_sound hT ha r hk).mono fun vs h'' hk => ?_)
      exact SOk.pure hk
    · exact hd0.elim

theorem results_sok {P : Program} {T : Types} (hT : TOk P T) {e : Env} {a : Act} (ha : Agree e a) {h : Heap} {fn : Func} {R : Value → Prop} (hd : resD T fn.results.toList e h fun vs => R (oneOf vs)) :
    SOk true P (results fn a.tmps) h fun v _ => R v := by
  unfold results
  rw [Array.mapM_eq_mapM_toList]
  refine SOk.bind (SOk.bind ((resD_sound hT ha fn.results.toList hd).mono fun vs h' hk => SOk.pure (SOk.pure ?_)))
  cases vs with
  | nil => exact hk
  | cons v r =>
    cases r with
    | nil => exact hk
    | cons u r => simpa [oneOf] using hk

theorem callsH_of {X : Ctx} (hX : X.Ok) {f : FuncId} {fn : Func} {c : Code} (hf : X.P.funcs[f]? = some fn) (hb : fn.body = some c) (p : Plan) (args : List TV) {h : Heap} {R : Value → Heap → Prop}
    (hd : denF X fn c p args h R) : CallsH X.P f (args.map TV.val) h R := by
  intro w hw
  subst hw
  unfold denF at hd
  cases hle : Nat.ble args.length fn.ntmps with
  | false => rw [hle] at hd; exact hd.elim
  | true =>
    rw [hle] at hd
    simp only [cond_true] at hd
    have hle := Nat.le_of_ble_eq_true hle
    refine calls_of_wp hf hb ?_
    have hsz : ((⟨args.map TV.val⟩ : Array Value) ++ Array.replicate (fn.ntmps - (⟨args.map TV.val⟩ : Array Value).size) undef).size = fn.ntmps := by
      simp; omega
    refine denC_sound hX c p (argsE 0 args) _ w _ _ ?_ (by rw [hsz]; exact hd) ?_
    · refine argsE_agree args 0 fun j v hj => ?_
      have hlt : j < args.length := by
        rcases Nat.lt_or_ge j args.length with h | h
        · exact h
        · rw [List.getElem?_eq_none h] at hj; cases hj
      have hv : args[j] = v := by rw [List.getElem?_eq_getElem hlt] at hj; injection hj
      refine ⟨?_, by rw [hsz]; omega⟩
      rw [Nat.zero_add, Array.getD_eq_getD_getElem?, Array.getElem?_append_left (by simpa using hlt)]
      simp [hlt, hv]
    · intro ex e' a' w' h1 h2 h3 h4
      have fin : resD X.T fn.results.toList e' w'.heap (fun vs => R (oneOf vs) w'.heap) → a'.defers = [] ∧ ∃ v, (results fn a'.tmps).run X.P w' = .ok v w' ∧ ∃ v', Ending.returned v = .returned v' ∧ Same w w' ∧ R v' w'.heap := by
        intro hr
        refine ⟨h2.2.1, ?_⟩
        obtain ⟨v, w'', k1, k2, k3, k4⟩ := results_sok hX.types h1 (R := fun v => R v w'.heap) hr w' rfl
        have := k3 rfl
        subst this
        exact ⟨v, k1, _, rfl, h3, k4⟩
      cases ex <;> first | exact fin h4 | exact h4.elim
end Go.Proofs.Ytjmhahjmbmiepaa.D
