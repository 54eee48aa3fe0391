/- Regions that draw, and all statements. -/
import Derived.Test.YtjmhahjmbmiepaaDenK
namespace Go.Proofs.Ytjmhahjmbmiepaa.D
open Go

def addW (i : Nat) (rs : List Rd) (ws : List Wt) : List Wt := match rs with
  | [] => ws
  | rs => ⟨i, rs⟩ :: ws
def actW (ops : Array Oper) (i : Nat) : List Wt → List Wt
  | [] => []
  | x :: xs => bif waits ops depth i x.i then actW ops i xs else x :: actW ops i xs

inductive DT where
  | done | op (i : Nat) (t : DT) | fork (a b : DT)
def DT.heads : DT → List Nat
  | .done => [] | .op i _ => [i] | .fork a b => a.heads ++ b.heads
def DT.size : DT → Nat
  | .done => 0 | .op _ t => t.size + 1 | .fork a b => max a.size b.size
theorem DT.size_pos : ∀ t : DT, t.heads ≠ [] → 0 < t.size
  | .done, h => absurd rfl h
  | .op _ t, _ => by simp [DT.size]
  | .fork a b, h => by
    unfold DT.size
    by_cases ha : a.heads = []
    · have : b.heads ≠ [] := fun hb => h (by simp [DT.heads, ha, hb])
      have := DT.size_pos b this
      omega
    · have := DT.size_pos a ha
      omega
def natsEq : List Nat → List Nat → Bool
  | [], [] => true
  | x :: xs, y :: ys => Nat.beq x y && natsEq xs ys
  | _, _ => false
theorem natsEq_of : ∀ {l r : List Nat}, natsEq l r = true → l = r
  | [], [], _ => rfl
  | [], _ :: _, h => by cases h
  | _ :: _, [], h => by cases h
  | x :: xs, y :: ys, h => by
    simp only [natsEq, Bool.and_eq_true] at h
    rw [Nat.eq_of_beq_eq_true h.1, natsEq_of h.2]
def acts (T : Types) (ops : Array Oper) (i : Nat) : Bool := match ops[i]? with
  | some o => !floatOp T o.op
  | none => false

def denDraw (X : Ctx) (n : Nat) (ops : Array Oper) : DT → Bool → Array Bool → List Wt → Env → Heap → (Env → Heap → Prop) → Prop
  | .done, _, listed, _, e, h, K => (match Region.ready .any ops listed with
    | [] => K e h
    | _ => False)
  | .fork a b, chk, listed, ws, e, h, K =>
    bif chk || (natsEq (Region.ready .any ops listed) (a.heads ++ b.heads) && (a.heads ++ b.heads).all (acts X.T ops) && !(a.heads ++ b.heads).isEmpty) then denDraw X n ops a true listed ws e h K ∧ denDraw X n ops b true listed ws e h K else False
  | .op i pl, chk, listed, ws, e, h, K => match ops[i]? with
    | none => False
    | some o =>
      let run : Env → Prop := fun e1 =>
        bif floatOp X.T o.op then
          (bif !chk && Region.free .any ops listed i then den1 X o e1 h fun v _ => denDraw X n ops pl false (listed.setIfInBounds i true) (addW i (rdsOf o e1 v) ws) (putE e1 o.dst v) h K else False)
        else (bif chk || natsEq (Region.ready .any ops listed) [i] then
          den1 X o e1 h fun v h' => nameH (namesH o.op) h' fun h' => watAll (actW ops i ws) h' (denDraw X n ops pl false (listed.setIfInBounds i true) (actW ops i ws) (putE e1 o.dst v) h' K) else False)
      let skip : Env → Prop := fun e1 =>
        bif floatOp X.T o.op then
          (bif !chk && Region.free .any ops listed i then denDraw X n ops pl false (listed.setIfInBounds i true) ws (putE e1 o.dst (.t (.l .un))) h K else False)
        else (bif chk || natsEq (Region.ready .any ops listed) [i] then denDraw X n ops pl false (listed.setIfInBounds i true) ws (putE e1 o.dst (.t (.l .un))) h K else False)
      bif okDst n o.dst && (Region.ready .any ops listed).contains i then (match o.guard with
        | none => run e
        | some (j, want) => (match guardOf ops.toList e j with
          | some (_, .lit b) => (match b, want with
            | true, true => run e
            | false, false => run e
            | _, _ => skip e)
          | some (_, .un) => skip e
          | some (d, .bool b) => (b = want → run (putE e (some d) (.t (.l (.lit want))))) ∧ (b = !want → skip (putE e (some d) (.t (.l (.lit (!want))))))
          | _ => False)) else False

theorem actW_mem {ops : Array Oper} {i : Nat} {x : Wt} : ∀ {ws : List Wt}, x ∈ ws → waits ops depth i x.i = false → x ∈ actW ops i ws
  | [], h, _ => by cases h
  | y :: ys, h, hw => by
    unfold actW
    rcases List.mem_cons.1 h with rfl | h
    · rw [hw]; exact List.mem_cons_self
    · cases hy : waits ops depth i y.i with
      | true => exact actW_mem h hw
      | false => exact List.mem_cons_of_mem _ (actW_mem h hw)

/-- The watched cells that are not asked for any more. -/
def Past (T : Types) (ops : Array Oper) (full act : List Wt) (L : Array Bool) : Prop :=
  ∀ x ∈ full, x ∈ act ∨ x.rs = [] ∨ ∃ e oe, ops[e]? = some oe ∧ floatOp T oe.op = false ∧ waits ops depth e x.i = true ∧ L.getD e false = true

theorem getD_true_of_set {L : Array Bool} {i : Nat} (h : i < L.size) : (L.setIfInBounds i true).getD i false = true := by simp [h]

theorem denDraw_sound {X : Ctx} (hX : X.Ok) {ops : Array Oper} (hsel : Region.noSelect ops = true) (ds : List Nat) (hds : ∀ (i : Nat) o, ops[i]? = some o → ∀ t, o.dst = some t → t ∈ ds) :
    ∀ (pl : DT) (chk : Bool) (listed : Array Bool) (act full : List Wt) (e : Env) (a : Act) (w : World) (K : Env → Heap → Prop) (Q : Exit → Act → World → Prop) (fuel : Nat),
    pl.size ≤ fuel → listed.size = ops.size → Closed ops listed → Past X.T ops full act listed → SW X.T ops full listed w → Agree e a → denDraw X a.tmps.size ops pl chk listed act e w.heap K →
    (∀ c a w, Q (.panic c) a w → False) →
    (∀ e' a' w', Agree e' a' → Keeps ds a a' → Same w w' → K e' w'.heap → Q .normal a' w') →
    (chk = false → wpAnyS X.P ops Q (SW X.T ops full) fuel listed a w) ∧
    (chk = true → ∀ f, fuel = f + 1 → ∀ i ∈ pl.heads, wpOp X.P ops Q i (fun a' w' => SW X.T ops full (listed.setIfInBounds i true) w' ∧ wpAnyS X.P ops Q (SW X.T ops full) f (listed.setIfInBounds i true) a' w') a w) := by
  intro pl
  induction pl with
  | done =>
    intro chk listed act full e a w K Q fuel _ _ _ _ _ ha hd _ hQ
    unfold denDraw at hd
    split at hd
    · rename_i hr
      exact ⟨fun _ => wpAnyS_done hr (hQ e a w ha (Keeps.refl _ _) (Same.refl w) hd) fuel, fun _ _ _ i hi => by cases hi⟩
    · exact hd.elim
  | fork x y ihx ihy =>
    intro chk listed act full e a w K Q fuel hfuel hsz hcl hpast hS ha hd hQp hQ
    unfold denDraw at hd
    cases hc : (chk || (natsEq (Region.ready .any ops listed) (x.heads ++ y.heads) && (x.heads ++ y.heads).all (acts X.T ops) && !(x.heads ++ y.heads).isEmpty)) with
    | false => rw [hc] at hd; exact hd.elim
    | true =>
      rw [hc] at hd
      simp only [cond_true] at hd
      have hfx : x.size ≤ fuel := by unfold DT.size at hfuel; omega
      have hfy : y.size ≤ fuel := by unfold DT.size at hfuel; omega
      have hx := (ihx true listed act full e a w K Q fuel hfx hsz hcl hpast hS ha hd.1 hQp hQ).2 rfl
      have hy := (ihy true listed act full e a w K Q fuel hfy hsz hcl hpast hS ha hd.2 hQp hQ).2 rfl
      have both : ∀ f, fuel = f + 1 → ∀ i ∈ x.heads ++ y.heads, wpOp X.P ops Q i (fun a' w' => SW X.T ops full (listed.setIfInBounds i true) w' ∧ wpAnyS X.P ops Q (SW X.T ops full) f (listed.setIfInBounds i true) a' w') a w := by
        intro f hf i hi
        rcases List.mem_append.1 hi with h | h
        · exact hx f hf i h
        · exact hy f hf i h
      refine ⟨fun hchk => ?_, fun _ f hf i hi => both f hf i hi⟩
      subst hchk
      simp only [Bool.false_or, Bool.and_eq_true] at hc
      have hr := natsEq_of hc.1.1
      have h0 : x.heads ++ y.heads ≠ [] := by
        intro h
        rw [h] at hc
        simp at hc
      have hpos : 0 < (DT.fork x y).size := DT.size_pos _ h0
      obtain ⟨f, rfl⟩ : ∃ f, fuel = f + 1 := ⟨fuel - 1, by omega⟩
      exact wpAnyS_all hr h0 (both f rfl)
  | op i pl ih =>
    intro chk listed act full e a w K Q fuel hfuel hsz hcl hpast hS ha hd hQp hQ
    obtain ⟨fuel, rfl⟩ : ∃ f, fuel = f + 1 := ⟨fuel - 1, by simp [DT.size] at hfuel; omega⟩
    have hfuel' : pl.size ≤ fuel := by simpa [DT.size] using hfuel
    unfold denDraw at hd
    split at hd
    · exact hd.elim
    · rename_i o ho
      dsimp only at hd
      have hi : i < ops.size := (Array.getElem?_eq_some_iff.1 ho).1
      have hdo := hds i o ho
      cases hok : (okDst a.tmps.size o.dst && (Region.ready .any ops listed).contains i) with
      | false => rw [hok] at hd; exact hd.elim
      | true =>
        rw [hok] at hd
        simp only [cond_true] at hd
        simp only [Bool.and_eq_true] at hok
        obtain ⟨hok, hrd⟩ := hok
        have hrd : i ∈ Region.ready .any ops listed := by simpa using hrd
        have hcl' := hcl.set hrd
        have hsz' : (listed.setIfInBounds i true).size = ops.size := by simpa using hsz
        -- where the operation acts: what is shown of it alone
        have wrap : (chk || natsEq (Region.ready .any ops listed) [i]) = true → wpOp X.P ops Q i (fun a' w' => SW X.T ops full (listed.setIfInBounds i true) w' ∧ wpAnyS X.P ops Q (SW X.T ops full) fuel (listed.setIfInBounds i true) a' w') a w →
            (chk = false → wpAnyS X.P ops Q (SW X.T ops full) (fuel + 1) listed a w) ∧
            (chk = true → ∀ f, fuel + 1 = f + 1 → ∀ j ∈ (DT.op i pl).heads, wpOp X.P ops Q j (fun a' w' => SW X.T ops full (listed.setIfInBounds j true) w' ∧ wpAnyS X.P ops Q (SW X.T ops full) f (listed.setIfInBounds j true) a' w') a w) := by
          intro hc hop
          refine ⟨fun hchk => ?_, fun _ f hf j hj => ?_⟩
          · subst hchk
            have hr := natsEq_of (by simpa using hc)
            refine wpAnyS_all hr (by simp) ?_
            intro k hk
            simp only [List.mem_singleton] at hk
            subst hk
            exact hop
          · simp only [DT.heads, List.mem_singleton] at hj
            subst hj
            obtain rfl : fuel = f := by omega
            exact hop
        have run : ∀ e1, Agree e1 a → Region.wanted o (yielded ops a.tmps) = true →
            (bif floatOp X.T o.op then
              (bif !chk && Region.free .any ops listed i then den1 X o e1 w.heap fun v _ => denDraw X a.tmps.size ops pl false (listed.setIfInBounds i true) (addW i (rdsOf o e1 v) act) (putE e1 o.dst v) w.heap K else False)
            else (bif chk || natsEq (Region.ready .any ops listed) [i] then
              den1 X o e1 w.heap fun v h' => nameH (namesH o.op) h' fun h' => watAll (actW ops i act) h' (denDraw X a.tmps.size ops pl false (listed.setIfInBounds i true) (actW ops i act) (putE e1 o.dst v) h' K) else False)) →
            (chk = false → wpAnyS X.P ops Q (SW X.T ops full) (fuel + 1) listed a w) ∧
            (chk = true → ∀ f, fuel + 1 = f + 1 → ∀ j ∈ (DT.op i pl).heads, wpOp X.P ops Q j (fun a' w' => SW X.T ops full (listed.setIfInBounds j true) w' ∧ wpAnyS X.P ops Q (SW X.T ops full) f (listed.setIfInBounds j true) a' w') a w) := by
          intro e1 ha1 hw hd
          cases hf : floatOp X.T o.op with
          | true =>
            rw [hf] at hd
            simp only [cond_true] at hd
            cases hfr : (!chk && Region.free .any ops listed i) with
            | false => rw [hfr] at hd; exact hd.elim
            | true =>
              rw [hfr] at hd
              simp only [cond_true] at hd
              simp only [Bool.and_eq_true, Bool.not_eq_true'] at hfr
              obtain ⟨hchk, hfr⟩ := hfr
              obtain ⟨v, hK, hrs, hrun⟩ := den1_quiet hX ha1 hf hd
              refine ⟨fun _ => ?_, fun h => by rw [hchk] at h; cases h⟩
              refine wpAnyS_first (S' := SW X.T ops (⟨i, rdsOf o e1 v⟩ :: full)) (C := fun w => ∀ r ∈ rdsOf o e1 v, r.ok w.heap) (v := v.val) ho (Region.noSelect_spec hsel) (fun c a w h => (hQp c _ w h).elim)
                (fun L w h x hx => h x (List.mem_cons_of_mem _ hx)) (SW.blind X.T ops _ ho hf) ?_ fuel listed a w hcl (Region.free_spec ho hfr) hrd (.inl ⟨hw, hrun⟩) ?_ ?_
              · intro L w' hcL hLi hS'
                refine hS' ⟨i, rdsOf o e1 v⟩ List.mem_cons_self fun e' oe he hn hwt => ?_
                cases hLe : L.getD e' false with
                | false => rfl
                | true => have := waits_of hcL _ _ _ hwt hLe; rw [hLi] at this; cases this
              · intro x hx hnw
                rcases List.mem_cons.1 hx with rfl | hx
                · exact hrs
                · exact hS x hx hnw
              · refine (ih false _ (addW i (rdsOf o e1 v) act) _ (putE e1 o.dst v) (a.put o.dst v.val) w K Q fuel hfuel' hsz' hcl' ?_ ?_ (ha1.put hok v) (by rw [put_size]; exact hK) hQp ?_).1 rfl
                · intro x hx
                  rcases List.mem_cons.1 hx with rfl | hx
                  · cases hr : rdsOf o e1 v with
                    | nil => exact .inr (.inl rfl)
                    | cons r rs => exact .inl (by unfold addW; exact List.mem_cons_self)
                  · rcases hpast x hx with h | h | ⟨e', oe, h1, h2, h3, h4⟩
                    · refine .inl ?_
                      unfold addW
                      split
                      · exact h
                      · exact List.mem_cons_of_mem _ h
                    · exact .inr (.inl h)
                    · exact .inr (.inr ⟨e', oe, h1, h2, h3, getD_set_true h4⟩)
                · refine (SW.blind X.T ops _ ho hf listed w).2 ?_
                  intro x hx hnw
                  rcases List.mem_cons.1 hx with rfl | hx
                  · exact hrs
                  · exact hS x hx hnw
                · intro e' a' w'' h1 h2 h3 h4
                  exact hQ e' a' w'' h1 ((Keeps.put a hdo _).trans h2) h3 h4
          | false =>
            rw [hf] at hd
            simp only [cond_false] at hd
            cases hc : (chk || natsEq (Region.ready .any ops listed) [i]) with
            | false => rw [hc] at hd; exact hd.elim
            | true =>
              rw [hc] at hd
              simp only [cond_true] at hd
              refine wrap hc ?_
              unfold wpOp
              simp only [ho]
              rw [if_pos hw]
              refine .inl (den1_sound hX ha1 hd w rfl _ _ ?_)
              intro v w' hs hK
              obtain ⟨hwa, hK⟩ := watAll_of (nameH_of hK)
              have hS' : SW X.T ops full (listed.setIfInBounds i true) w' := by
                intro x hx hnw r hr
                rcases hpast x hx with h | h | ⟨e', oe, h1, h2, h3, h4⟩
                · cases hwt : waits ops depth i x.i with
                  | false => exact hwa x (actW_mem h hwt) r hr
                  | true => have := hnw i o ho hf hwt; rw [getD_true_of_set (by omega)] at this; cases this
                · rw [h] at hr; cases hr
                · have := hnw e' oe h1 h2 h3; rw [getD_set_true h4] at this; cases this
              refine ⟨hS', ?_⟩
              refine (ih false _ (actW ops i act) full (putE e1 o.dst v) (a.put o.dst v.val) w' K Q fuel hfuel' hsz' hcl' ?_ hS' (ha1.put hok v) (by rw [put_size]; exact hK) hQp ?_).1 rfl
              · intro x hx
                rcases hpast x hx with h | h | ⟨e', oe, h1, h2, h3, h4⟩
                · cases hwt : waits ops depth i x.i with
                  | false => exact .inl (actW_mem h hwt)
                  | true => exact .inr (.inr ⟨i, o, ho, hf, hwt, getD_true_of_set (by omega)⟩)
                · exact .inr (.inl h)
                · exact .inr (.inr ⟨e', oe, h1, h2, h3, getD_set_true h4⟩)
              · intro e' a' w'' h1 h2 h3 h4
                exact hQ e' a' w'' h1 ((Keeps.put a hdo _).trans h2) (hs.trans h3) h4
        have skip : ∀ e1, Agree e1 a → Region.wanted o (yielded ops a.tmps) = false →
            (bif floatOp X.T o.op then
              (bif !chk && Region.free .any ops listed i then denDraw X a.tmps.size ops pl false (listed.setIfInBounds i true) act (putE e1 o.dst (.t (.l .un))) w.heap K else False)
            else (bif chk || natsEq (Region.ready .any ops listed) [i] then denDraw X a.tmps.size ops pl false (listed.setIfInBounds i true) act (putE e1 o.dst (.t (.l .un))) w.heap K else False)) →
            (chk = false → wpAnyS X.P ops Q (SW X.T ops full) (fuel + 1) listed a w) ∧
            (chk = true → ∀ f, fuel + 1 = f + 1 → ∀ j ∈ (DT.op i pl).heads, wpOp X.P ops Q j (fun a' w' => SW X.T ops full (listed.setIfInBounds j true) w' ∧ wpAnyS X.P ops Q (SW X.T ops full) f (listed.setIfInBounds j true) a' w') a w) := by
          intro e1 ha1 hw hd
          have past' : Past X.T ops full act (listed.setIfInBounds i true) := by
            intro x hx
            rcases hpast x hx with h | h | ⟨e', oe, h1, h2, h3, h4⟩
            · exact .inl h
            · exact .inr (.inl h)
            · exact .inr (.inr ⟨e', oe, h1, h2, h3, getD_set_true h4⟩)
          have hS' : SW X.T ops full (listed.setIfInBounds i true) w := by
            intro x hx hnw
            refine hS x hx fun e' oe he hn hwt => ?_
            cases hLe : listed.getD e' false with
            | false => rfl
            | true => have := hnw e' oe he hn hwt; rw [getD_set_true hLe] at this; cases this
          have rest : denDraw X a.tmps.size ops pl false (listed.setIfInBounds i true) act (putE e1 o.dst (.t (.l .un))) w.heap K →
              wpAnyS X.P ops Q (SW X.T ops full) fuel (listed.setIfInBounds i true) (a.put o.dst undef) w := fun hd => by
            refine (ih false _ act full (putE e1 o.dst (.t (.l .un))) (a.put o.dst undef) w K Q fuel hfuel' hsz' hcl' past' hS' (ha1.put hok (.t (.l .un))) (by rw [put_size]; exact hd) hQp ?_).1 rfl
            intro e' a' w'' h1 h2 h3 h4
            exact hQ e' a' w'' h1 ((Keeps.put a hdo _).trans h2) h3 h4
          cases hf : floatOp X.T o.op with
          | true =>
            rw [hf] at hd
            simp only [cond_true] at hd
            cases hfr : (!chk && Region.free .any ops listed i) with
            | false => rw [hfr] at hd; exact hd.elim
            | true =>
              rw [hfr] at hd
              simp only [cond_true] at hd
              simp only [Bool.and_eq_true, Bool.not_eq_true'] at hfr
              obtain ⟨hchk, hfr⟩ := hfr
              refine ⟨fun _ => ?_, fun h => by rw [hchk] at h; cases h⟩
              exact wpAnyS_first (S' := SW X.T ops full) (C := fun _ => True) (v := undef) ho (Region.noSelect_spec hsel) (fun c a w h => (hQp c _ w h).elim)
                (fun _ _ h => h) (SW.blind X.T ops _ ho hf) (fun _ _ _ _ _ => trivial) fuel listed a w hcl (Region.free_spec ho hfr) hrd (.inr ⟨hw, rfl⟩) hS (rest hd)
          | false =>
            rw [hf] at hd
            simp only [cond_false] at hd
            cases hc : (chk || natsEq (Region.ready .any ops listed) [i]) with
            | false => rw [hc] at hd; exact hd.elim
            | true =>
              rw [hc] at hd
              simp only [cond_true] at hd
              refine wrap hc ?_
              unfold wpOp
              simp only [ho]
              rw [if_neg (by rw [hw]; simp)]
              exact ⟨hS', rest hd⟩
        cases hg : o.guard with
        | none =>
          rw [hg] at hd
          exact run e ha (by simp [Region.wanted, hg]) hd
        | some g =>
          obtain ⟨j, want⟩ := g
          rw [hg] at hd
          dsimp only at hd
          split at hd
          · rename_i d b hgo
            obtain ⟨hy, _⟩ := yielded_of ha hgo (b := b) rfl
            have hw : Region.wanted o (yielded ops a.tmps) = (b == want) := by simp [Region.wanted, hg, hy]
            split at hd
            · exact run e ha (by rw [hw]; rfl) hd
            · exact run e ha (by rw [hw]; rfl) hd
            · rename_i h1 h2
              have : (b == want) = false := by cases b <;> cases want <;> simp at h1 h2 ⊢
              exact skip e ha (by rw [hw, this]) hd
          · rename_i d hgo
            exact skip e ha (by simp [Region.wanted, hg, yielded_un ha hgo]) hd
          · rename_i d b hgo
            obtain ⟨hy, hl'⟩ := yielded_of ha hgo (b := b) rfl
            have hw : Region.wanted o (yielded ops a.tmps) = (b == want) := by simp [Region.wanted, hg, hy]
            by_cases hb : b = want
            · exact run _ (ha.lit hl' (by rw [← hb]; rfl)) (by rw [hw, hb]; simp) (hd.1 hb)
            · have hb' : b = !want := by cases b <;> cases want <;> simp at hb ⊢
              exact skip _ (ha.lit hl' (by rw [← hb']; rfl)) (by rw [hw]; simpa using hb) (hd.2 hb')
          · exact hd.elim
end Go.Proofs.Ytjmhahjmbmiepaa.D
