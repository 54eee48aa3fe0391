/- A region that draws its order: what is read may float past what acts, if it is still there. -/
import Derived.Test.YtjmhahjmbmiepaaDenJ
import Derived.OrdersHeld
namespace Go.Proofs.Ytjmhahjmbmiepaa.D
open Go

section game
variable {P : Program} {ops : Array Oper} {Q : Exit → Act → World → Prop}

/-- Whatever comes up, and 'S' (it may hang on what has come up) holds behind each operation. -/
def wpAnyS (P : Program) (ops : Array Oper) (Q : Exit → Act → World → Prop) (S : Array Bool → World → Prop) : Nat → Array Bool → Act → World → Prop
  | 0, listed, a, w => Region.ready .any ops listed = [] ∧ Q .normal a w
  | fuel + 1, listed, a, w =>
    (Region.ready .any ops listed = [] → Q .normal a w) ∧
    ∀ i ∈ Region.ready .any ops listed, wpOp P ops Q i (fun a' w' => S (listed.setIfInBounds i true) w' ∧ wpAnyS P ops Q S fuel (listed.setIfInBounds i true) a' w') a w

theorem wpAny_of_S {S : Array Bool → World → Prop} : ∀ (fuel : Nat) (listed : Array Bool) (a : Act) (w : World), wpAnyS P ops Q S fuel listed a w → wpAny P .any ops Q fuel listed a w
  | 0, _, _, _, h => h
  | fuel + 1, _, _, _, h => ⟨h.1, fun i hi => wpOp_mono (fun a' w' h' => wpAny_of_S fuel _ a' w' h'.2) (h.2 i hi)⟩

/-- What has come up is closed under what it waits for. -/
def Closed (ops : Array Oper) (L : Array Bool) : Prop := ∀ j oj, ops[j]? = some oj → L.getD j false = true → ∀ ed ∈ oj.after, Region.binds .any ed = true → L.getD ed.on false = true

theorem Closed.set {L : Array Bool} (hc : Closed ops L) {i : Nat} (hr : i ∈ Region.ready .any ops L) : Closed ops (L.setIfInBounds i true) := by
  intro j oj hj hl ed he hb
  by_cases hij : i = j
  · subst hij
    obtain ⟨_, o, ho, hall⟩ := mem_ready.1 hr
    rw [hj] at ho
    injection ho with ho
    subst ho
    exact getD_set_true (hall ed he hb)
  · rw [getD_set_ne false hij] at hl
    exact getD_set_true (hc j oj hj hl ed he hb)

/-- 'S' hangs on nothing that 'i' turns. -/
def Blind (S : Array Bool → World → Prop) (i : Nat) : Prop := ∀ L w, S (L.setIfInBounds i true) w ↔ S L w

theorem wpAnyS_first {S S' : Array Bool → World → Prop} {C : World → Prop} {i : Nat} {oi : Oper} {v : Value} (hi : ops[i]? = some oi) (hsel : ∀ (j : Nat) (o : Oper) cs b, ops[j]? = some o → o.op ≠ .select cs b)
    (hQ : ∀ c a w, Q (.panic c) (a.put oi.dst v) w → Q (.panic c) a w)
    (hSS : ∀ L w, S' L w → S L w) (hbl : Blind S' i) (hC : ∀ L w, Closed ops L → L.getD i false = false → S' L w → C w) :
    ∀ (fuel : Nat) (listed : Array Bool) (a : Act) (w : World), Closed ops listed →
      (∀ j oj, ops[j]? = some oj → j ≠ i → listed.getD j true = false → (∀ e ∈ oj.after, Region.binds .any e = true → e.on ≠ i) → oi.apart ops oj = true) →
      i ∈ Region.ready .any ops listed → YieldsIf P ops C oi v a → S' listed w →
      wpAnyS P ops Q S' fuel (listed.setIfInBounds i true) (a.put oi.dst v) w → wpAnyS P ops Q S (fuel + 1) listed a w := by
  intro fuel
  have unl : ∀ L : Array Bool, i ∈ Region.ready .any ops L → L.getD i false = false := fun L hr => by
    have h0 := (mem_ready.1 hr).1
    rcases Nat.lt_or_ge i L.size with h' | h'
    · simpa [h'] using h0
    · simp [Array.getElem?_eq_none h'] at h0
  have mon : ∀ (fuel : Nat) (L : Array Bool) (a : Act) (w : World), wpAnyS P ops Q S' fuel L a w → wpAnyS P ops Q S fuel L a w := by
    intro fuel
    induction fuel with
    | zero => exact fun _ _ _ h => h
    | succ fuel ih => exact fun L a w h => ⟨h.1, fun j hj => wpOp_mono (fun a' w' h' => ⟨hSS _ _ h'.1, ih _ _ _ h'.2⟩) (h.2 j hj)⟩
  induction fuel with
  | zero =>
    intro listed a w hcl _ hr hy hS H
    refine ⟨fun h => (by rw [h] at hr; cases hr), fun j hj => ?_⟩
    by_cases hji : j = i
    · subst hji
      exact hy.wpOp hi (hC listed w hcl (unl _ hr) hS) ⟨hSS _ _ ((hbl _ _).2 hS), mon _ _ _ _ H⟩
    · have := ready_mono hj hji
      rw [H.1] at this
      cases this
  | succ fuel ih =>
    intro listed a w hcl hfree hr hy hS H
    refine ⟨fun h => (by rw [h] at hr; cases hr), fun j hj => ?_⟩
    by_cases hji : j = i
    · subst hji
      exact hy.wpOp hi (hC listed w hcl (unl _ hr) hS) ⟨hSS _ _ ((hbl _ _).2 hS), mon _ _ _ _ H⟩
    · have h1 := H.2 j (ready_mono hj hji)
      obtain ⟨hjun, oj, hoj, hall⟩ := mem_ready.1 hj
      have hnot : ∀ e ∈ oj.after, Region.binds .any e = true → e.on ≠ i := fun e he hb heq => by
        have h1 := hall e he hb
        have h0 := (mem_ready.1 hr).1
        rw [heq] at h1
        rcases Nat.lt_or_ge i listed.size with h' | h'
        · simp [h'] at h0 h1; rw [h0] at h1; cases h1
        · simp [Array.getElem?_eq_none h'] at h1
      have h2 := wpOp_putIf hoj (hfree j oj hoj hji hjun hnot) (fun cs b => hsel i oi cs b hi) (fun cs b => hsel j oj cs b hoj) hQ hy h1
      have hfree' : ∀ k ok, ops[k]? = some ok → k ≠ i → (listed.setIfInBounds j true).getD k true = false →
          (∀ e ∈ ok.after, Region.binds .any e = true → e.on ≠ i) → oi.apart ops ok = true := fun k ok hk hki hun hno => by
        refine hfree k ok hk hki ?_ hno
        by_cases hjk : j = k
        · subst hjk; exact hjun
        · rw [getD_set_ne true hjk] at hun; exact hun
      refine wpOp_mono (fun a' w' h3 => ?_) h2
      have hS' : S' (listed.setIfInBounds j true) w' := by
        refine (hbl _ _).1 ?_
        rw [Array.setIfInBounds_comm _ _ hji]
        exact h3.2.1
      refine ⟨hSS _ _ hS', ih (listed.setIfInBounds j true) a' w' (hcl.set hj) hfree' (ready_mono hr (Ne.symm hji)) h3.1 hS' ?_⟩
      rw [Array.setIfInBounds_comm _ _ hji]
      exact h3.2.2

theorem wpAnyS_all {S : Array Bool → World → Prop} {rs : List Nat} {fuel : Nat} {listed : Array Bool} {a : Act} {w : World} (hr : Region.ready .any ops listed = rs) (hne : rs ≠ [])
    (h : ∀ i ∈ rs, wpOp P ops Q i (fun a' w' => S (listed.setIfInBounds i true) w' ∧ wpAnyS P ops Q S fuel (listed.setIfInBounds i true) a' w') a w) : wpAnyS P ops Q S (fuel + 1) listed a w :=
  ⟨fun h0 => absurd (hr ▸ h0) hne, hr ▸ h⟩
theorem wpAnyS_done {S : Array Bool → World → Prop} {listed : Array Bool} {a : Act} {w : World} (hr : Region.ready .any ops listed = []) (h : Q .normal a w) : ∀ fuel, wpAnyS P ops Q S fuel listed a w
  | 0 => ⟨hr, h⟩
  | _ + 1 => ⟨fun _ => h, by rw [hr]; simp⟩
end game

def isData : Ground → Bool
  | .data => true
  | _ => false
/-- 'e' waits for 'k'. -/
def waits (ops : Array Oper) : Nat → Nat → Nat → Bool
  | 0, _, _ => false
  | f + 1, e, k => match ops[e]? with
    | none => false
    | some o => o.after.toList.any fun ed => Region.binds .any ed && (Nat.beq ed.on k || (isData ed.ground && waits ops f ed.on k))
theorem waits_of {ops : Array Oper} {L : Array Bool} (hc : Closed ops L) : ∀ (f e k : Nat), waits ops f e k = true → L.getD e false = true → L.getD k false = true
  | 0, _, _, h, _ => by cases h
  | f + 1, e, k, h, hl => by
    unfold waits at h
    split at h
    · cases h
    · rename_i o ho
      obtain ⟨ed, hm, hp⟩ := List.any_eq_true.1 h
      simp only [Bool.and_eq_true, Bool.or_eq_true] at hp
      obtain ⟨hb, hp⟩ := hp
      have h1 := hc e o ho hl ed (by simpa using hm) hb
      rcases hp with hp | ⟨_, hp⟩
      · rw [← Nat.eq_of_beq_eq_true hp]; exact h1
      · exact waits_of hc f ed.on k hp h1

structure Wt where
  i : Nat
  rs : List Rd
def depth : Nat := 12
def SW (T : Types) (ops : Array Oper) (ws : List Wt) (L : Array Bool) (w : World) : Prop :=
  ∀ x ∈ ws, (∀ e oe, ops[e]? = some oe → floatOp T oe.op = false → waits ops depth e x.i = true → L.getD e false = false) → ∀ r ∈ x.rs, r.ok w.heap
theorem SW.blind (T : Types) (ops : Array Oper) (ws : List Wt) {i : Nat} {oi : Oper} (hi : ops[i]? = some oi) (hq : floatOp T oi.op = true) : Blind (SW T ops ws) i := by
  have key : ∀ (L : Array Bool) e oe, ops[e]? = some oe → floatOp T oe.op = false → (L.setIfInBounds i true).getD e false = L.getD e false := fun L e oe he hn => by
    have hne : i ≠ e := fun h => by subst h; rw [hi] at he; injection he with he; subst he; rw [hq] at hn; cases hn
    exact getD_set_ne false hne
  intro L w
  constructor
  · intro h x hx hw r hr
    exact h x hx (fun e oe he hn hwt => by rw [key L e oe he hn]; exact hw e oe he hn hwt) r hr
  · intro h x hx hw r hr
    exact h x hx (fun e oe he hn hwt => by rw [← key L e oe he hn]; exact hw e oe he hn hwt) r hr

/-- Cells that still hold what they held. -/
def wat : List Rd → Heap → Prop → Prop
  | [], _, p => p
  | r :: rs, h, p => cellAt h r.b r.o = some r.v ∧ wat rs h p
theorem wat_of : ∀ {rs : List Rd} {h : Heap} {p : Prop}, wat rs h p → (∀ r ∈ rs, r.ok h) ∧ p
  | [], _, _, h => ⟨by simp, h⟩
  | r :: rs, h, p, k => by
    obtain ⟨h1, h2⟩ := wat_of k.2
    refine ⟨fun x hx => ?_, h2⟩
    rcases List.mem_cons.1 hx with rfl | hx
    · exact k.1
    · exact h1 x hx
def watAll : List Wt → Heap → Prop → Prop
  | [], _, p => p
  | x :: xs, h, p => wat x.rs h (watAll xs h p)
theorem watAll_of : ∀ {ws : List Wt} {h : Heap} {p : Prop}, watAll ws h p → (∀ x ∈ ws, ∀ r ∈ x.rs, r.ok h) ∧ p
  | [], _, _, h => ⟨by simp, h⟩
  | x :: xs, h, p, k => by
    obtain ⟨h1, h2⟩ := wat_of k
    obtain ⟨h3, h4⟩ := watAll_of h2
    refine ⟨fun y hy => ?_, h4⟩
    rcases List.mem_cons.1 hy with rfl | hy
    · exact h1
    · exact h3 y hy

end Go.Proofs.Ytjmhahjmbmiepaa.D
