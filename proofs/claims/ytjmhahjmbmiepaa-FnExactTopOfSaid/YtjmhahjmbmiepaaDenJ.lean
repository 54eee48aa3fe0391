/- What a quiet operation yields hangs on the cells alone that it reads. -/
import Derived.Test.YtjmhahjmbmiepaaDenI
namespace Go.Proofs.Ytjmhahjmbmiepaa.D
open Go

structure Rd where
  b : Nat
  o : Nat
  v : Value
def Rd.ok (r : Rd) (h : Heap) : Prop := cellAt h r.b r.o = some r.v

def DetL (D : (LV → Prop) → Prop) : Prop := ∀ K, D K → ∃ v, K v ∧ D (· = v)
/-- The cells that an operation reads, once its value is known. -/
def rdCells (b o : Nat) : Nat → List LV → List Rd
  | _, [] => []
  | i, v :: vs => ⟨b, o + i, v.val⟩ :: rdCells b o (i + 1) vs
def rdsOf (o : Oper) (e : Env) (v : SV) : List Rd := match o.op with
  | .load _ x => (match rho e x, v with
    | some (.t (.l (.ptrB b o))), .t u => rdCells b o 0 u.cells
    | _, _ => [])
  | _ => []
/-- Operations that may float: they read no row of bytes. -/
def floatOp (T : Types) : Op → Bool
  | .convert s _ _ => (match look T s with
    | some ⟨.slice _, _, _⟩ => false
    | _ => true)
  | op => quietOp op
theorem floatOp_quiet {T : Types} {op : Op} (h : floatOp T op = true) : quietOp op = true := by
  cases op <;> first | exact h | rfl
/-- Quiet: one value, whatever the rest of the heap. -/
def DetH (R : SV → List Rd) (D : Heap → KS → Prop) : Prop := ∀ h K, D h K → ∃ v, K v h ∧ (∀ r ∈ R v, r.ok h) ∧ ∀ h', (∀ r ∈ R v, r.ok h') → D h' fun v' _ => v' = v
abbrev noRd : SV → List Rd := fun _ => []

theorem DetH.of {D : Heap → KS → Prop} (hd : ∀ h K, D h K → ∃ v, K v h ∧ ∀ h', D h' fun v' _ => v' = v) : DetH noRd D := by
  intro h K k
  obtain ⟨v, hv, hh⟩ := hd h K k
  exact ⟨v, hv, by simp, fun h' _ => hh h'⟩

theorem detInt (op : BinOp) (k : IntKind) (x y : Int) : DetL (denInt op k x y) := by
  intro K hd
  cases op <;> first | exact ⟨_, hd, rfl⟩ | exact ⟨_, hd.2, hd.1, rfl⟩
theorem detStr (op : BinOp) (x y : ByteArray) : DetL (denStr op x y) := by
  intro K hd
  cases op <;> first | exact hd.elim | exact ⟨_, hd.2, hd.1, rfl⟩ | exact ⟨_, hd, rfl⟩
theorem detEq (d : TDesc) (x y : LV) (K : Bool → Prop) (hd : denEq d x y K) : ∃ v, K v ∧ denEq d x y (· = v) := by
  cases d <;> simp only [denEq] at hd ⊢ <;> first | exact hd.elim | skip
  · cases x <;> simp only [withB] at hd ⊢ <;> first | exact hd.elim | skip
    all_goals cases y <;> simp only at hd ⊢ <;> first | exact hd.elim | exact ⟨_, hd, rfl⟩
  · cases hn : nilS y with
    | false => rw [hn] at hd; exact hd.elim
    | true =>
      rw [hn] at hd
      cases x <;> simp only [withS, cond_true] at hd ⊢ <;> first | exact hd.elim | exact ⟨_, hd, rfl⟩
  · cases hn : nilP y with
    | false => rw [hn] at hd; exact hd.elim
    | true =>
      rw [hn] at hd
      cases x <;> simp only [cond_true] at hd ⊢ <;> first | exact hd.elim | exact ⟨_, hd, rfl⟩
theorem detBin (X : Ctx) (op : BinOp) (t : TypeId) (x y : LV) : DetL (denBin X op t x y) := by
  intro K hd
  unfold denBin at hd ⊢
  split at hd
  · rename_i k a k' b
    cases hs : isShift op with
    | true => rw [hs] at hd; exact detInt _ _ _ _ K hd
    | false =>
      rw [hs] at hd
      simp only [cond_false] at hd ⊢
      split at hd
      · rename_i hk
        obtain ⟨v, h1, h2⟩ := detInt _ _ _ _ K hd
        exact ⟨v, h1, by rw [if_pos hk]; exact h2⟩
      · exact hd.elim
  · exact detStr _ _ _ K hd
  · split at hd
    · cases op <;> simp only at hd ⊢ <;> first | exact hd.elim | skip
      · obtain ⟨v, h1, h2⟩ := detEq _ _ _ _ hd
        refine ⟨_, h1, ?_⟩
        obtain ⟨v', h3, h4⟩ := detEq _ _ _ _ h2
        subst h3
        simpa [LV.bool.injEq] using h4
      · obtain ⟨v, h1, h2⟩ := detEq _ _ _ _ hd
        refine ⟨_, h1, ?_⟩
        simpa [LV.bool.injEq] using h2
    · exact hd.elim
theorem detLen (T : Types) (t : TypeId) (x : LV) : DetL (denLen T t x) := by
  intro K hd
  unfold denLen at hd ⊢
  split at hd
  · cases x <;> simp only [withS] at hd ⊢ <;> first | exact hd.elim | exact ⟨_, hd, rfl⟩
  · cases x <;> simp only at hd ⊢ <;> first | exact hd.elim | exact ⟨_, hd, rfl⟩
  · exact hd.elim
theorem detCap (T : Types) (t : TypeId) (x : LV) : DetL (denCap T t x) := by
  intro K hd
  unfold denCap at hd ⊢
  split at hd
  · cases x <;> simp only [withS] at hd ⊢ <;> first | exact hd.elim | exact ⟨_, hd, rfl⟩
  · exact hd.elim
theorem detIndex (T : Types) (t : TypeId) (x : TV) (i : Int) : DetL (denIndex T t x i) := by
  intro K hd
  unfold denIndex at hd ⊢
  split at hd
  · exact ⟨_, hd.2.2, hd.1, hd.2.1, rfl⟩
  · split at hd
    · rename_i j k xs hj hxs
      cases hc : ((!j.agg) && Nat.beq j.leaves.length 1 && Nat.beq _ _) with
      | false => rw [hc] at hd; exact hd.elim
      | true =>
        rw [hc] at hd
        exact ⟨_, hd.2.2, hd.1, hd.2.1, rfl⟩
    · exact hd.elim
  · exact hd.elim
theorem detPick (c : Bool) (va vb : SV) (K : SV → Prop) (hd : pickD c va vb K) : ∃ v, K v ∧ pickD c va vb (· = v) := by
  unfold pickD at hd ⊢
  split at hd
  · exact ⟨_, hd, rfl⟩
  · split at hd
    · split at hd
      · rename_i hk
        exact ⟨_, hd, by rw [if_pos hk]⟩
      · exact hd.elim
    · cases c with
      | true => exact ⟨va, hd.1 rfl, fun _ => rfl, fun h => by cases h⟩
      | false => exact ⟨vb, hd.2 rfl, fun h => (by cases h), fun _ => rfl⟩

theorem detSlice (T : Types) (t : TypeId) (x : LV) (lo hi mx : Option Int) : DetH noRd fun h K => denSlice T t x lo hi mx h K := by
  refine DetH.of fun h K hd => ?_
  unfold denSlice at hd ⊢
  split at hd
  · split at hd
    · exact ⟨_, hd.2.2.2, fun h' => ⟨hd.1, hd.2.1, hd.2.2.1, rfl⟩⟩
    · exact hd.elim
  · split at hd
    · cases x <;> simp only [withS] at hd ⊢ <;> first | exact hd.elim | exact ⟨_, hd.2.2.2, fun h' => ⟨hd.1, hd.2.1, hd.2.2.1, rfl⟩⟩
    · exact hd.elim
  · exact hd.elim
theorem detFieldAddr (T : Types) (t : TypeId) (x : LV) (f : Nat) : DetH noRd fun h K => denFieldAddr T t x f h K := by
  refine DetH.of fun h K hd => ?_
  unfold denFieldAddr at hd ⊢
  split at hd
  · rename_i off i hf
    cases hc : Nat.ble 1 i.leaves.length with
    | false => rw [hc] at hd; exact hd.elim
    | true =>
      rw [hc] at hd
      cases x <;> simp only [withP, cond_true] at hd ⊢ <;> first | exact hd.elim | exact ⟨_, hd, fun _ => rfl⟩
  · exact hd.elim
theorem detPart (i : TI) (vs : List LV) (off : Nat) (K : TV → Prop) (hd : partOf i vs off K) : ∃ v, K v ∧ partOf i vs off (· = v) := by
  unfold partOf at hd ⊢
  cases ha : i.agg with
  | true => rw [ha] at hd; exact ⟨_, hd, rfl⟩
  | false =>
    rw [ha] at hd
    simp only [cond_false] at hd ⊢
    split at hd
    · exact ⟨_, hd, rfl⟩
    · exact hd.elim
theorem detField (T : Types) (t : TypeId) (x : TV) (f : Nat) : DetH noRd fun h K => denField T t x f h K := by
  refine DetH.of fun h K hd => ?_
  unfold denField at hd ⊢
  split at hd
  · obtain ⟨v, h1, h2⟩ := detPart _ _ _ _ hd
    refine ⟨_, h1, fun h' => ?_⟩
    obtain ⟨v', h3, h4⟩ := detPart _ _ _ _ h2
    subst h3
    simpa using h4
  · exact hd.elim
theorem detIndexAddr (T : Types) (t : TypeId) (x : LV) (i : Int) : DetH noRd fun h K => denIndexAddr T t x i h K := by
  refine DetH.of fun h K hd => ?_
  unfold denIndexAddr at hd ⊢
  split at hd
  · split at hd
    · cases x <;> simp only [baseOf] at hd ⊢ <;> first | exact hd.elim | skip
      · obtain ⟨b, o, ha, h0, h1, hk⟩ := hd
        exact ⟨_, hk, fun h' => ⟨b, o, ha, h0, h1, rfl⟩⟩
      · exact ⟨_, hd.2.2, fun h' => ⟨hd.1, hd.2.1, rfl⟩⟩
    · exact hd.elim
  · split at hd
    · cases x <;> simp only [withP] at hd ⊢ <;> first | exact hd.elim | exact ⟨_, hd.2.2, fun h' => ⟨hd.1, hd.2.1, rfl⟩⟩
    · exact hd.elim
  · exact hd.elim
theorem detBuild (T : Types) (t : TypeId) (ps : Option (List (Nat × TV))) : DetH noRd fun h K => denBuild T t ps h K := by
  refine DetH.of fun h K hd => ?_
  unfold denBuild at hd ⊢
  split at hd
  · split at hd
    · split at hd
      · exact ⟨_, hd, fun _ => rfl⟩
      · exact hd.elim
    · exact hd.elim
  · split at hd
    · split at hd
      · exact ⟨_, hd, fun _ => rfl⟩
      · exact hd.elim
    · exact hd.elim
  · exact hd.elim

theorem Leaf.ex_det {l : Leaf} {K : LV → Prop} (h : l.ex K) : ∃ v, K v ∧ ∀ K' : LV → Prop, K' v → l.ex K' := by
  cases l <;> first | (obtain ⟨a, n, c, h⟩ := h; exact ⟨_, h, fun K' k => ⟨a, n, c, k⟩⟩) | (obtain ⟨a, n, h⟩ := h; exact ⟨_, h, fun K' k => ⟨a, n, k⟩⟩) | (obtain ⟨x, h⟩ := h; exact ⟨_, h, fun K' k => ⟨x, k⟩⟩)
theorem detLd {b o : Nat} : ∀ {ls : List Leaf} {i : Nat} {h : Heap} {K : List LV → Prop}, ldC h b o i ls K →
    ∃ vs, K vs ∧ (∀ r ∈ rdCells b o i vs, r.ok h) ∧ ∀ h', (∀ r ∈ rdCells b o i vs, r.ok h') → ∀ K' : List LV → Prop, K' vs → ldC h' b o i ls K'
  | [], _, _, _, k => ⟨[], k, by simp [rdCells], fun _ _ _ k' => k'⟩
  | l :: ls, i, h, K, k => by
    obtain ⟨v, ⟨hc, k⟩, hv⟩ := Leaf.ex_det k
    obtain ⟨vs, k, h1, h2⟩ := detLd k
    refine ⟨v :: vs, k, ?_, ?_⟩
    · intro r hr
      rcases List.mem_cons.1 hr with rfl | hr
      · exact hc
      · exact h1 r hr
    · intro h' hr K' k'
      exact hv _ ⟨hr ⟨b, o + i, v.val⟩ List.mem_cons_self, h2 h' (fun r hm => hr r (List.mem_cons_of_mem _ hm)) (fun us => K' (v :: us)) k'⟩
def loadRd (b o : Nat) : SV → List Rd
  | .t u => rdCells b o 0 u.cells
  | _ => []
theorem detLoad (T : Types) (t : TypeId) (b o : Nat) : DetH (loadRd b o) fun h K => denLoad T t (.ptrB b o) h K := by
  intro h K hd
  unfold denLoad at hd ⊢
  split at hd
  · rename_i i hi
    simp only [withP] at hd ⊢
    obtain ⟨vs, k, h1, h2⟩ := detLd hd
    cases ha : i.agg with
    | true =>
      rw [ha] at k
      refine ⟨_, k, h1, fun h' hr => h2 h' hr _ ?_⟩
      rfl
    | false =>
      rw [ha] at k
      simp only [cond_false] at k
      split at k
      · exact ⟨_, k, h1, fun h' hr => h2 h' hr _ rfl⟩
      · exact k.elim
  · exact hd.elim

theorem detConv (T : Types) (s d : TypeId) (x : LV) (hf : (match look T s with | some ⟨.slice _, _, _⟩ => false | _ => true) = true) : DetH noRd fun h K => denConv T s d x h fun v => K (.t (.l v)) h := by
  refine DetH.of fun h K hd => ?_
  unfold denConv at hd ⊢
  split at hd
  · cases x <;> simp only [withI] at hd ⊢ <;> first | exact hd.elim | exact ⟨_, hd, fun _ => rfl⟩
  · cases x <;> simp only at hd ⊢ <;> first | exact hd.elim | exact ⟨_, hd, fun _ => rfl⟩
  · rename_i h1 _
    rw [h1] at hf
    cases hf
  · exact hd.elim

/-- A quiet operation: its value, the cells that it hangs on. -/
theorem den1_quiet {X : Ctx} (hX : X.Ok) {o : Oper} {e : Env} {a : Act} (ha : Agree e a) {h : Heap} {K : KS} (hf : floatOp X.T o.op = true) (hd : den1 X o e h K) :
    ∃ v : SV, K v h ∧ (∀ r ∈ rdsOf o e v, r.ok h) ∧ ∀ w : World, (∀ r ∈ rdsOf o e v, r.ok w.heap) → (execOp a.eval o).run X.P w = .ok (.value v.val) w := by
  have hq := floatOp_quiet hf
  have key : DetH (rdsOf o e) (fun h K => den1 X o e h K) := by
    clear hd ha
    obtain ⟨dst, op, type, pos, after, guard⟩ := o
    intro h K hd
    unfold den1 at hd ⊢
    cases op <;> dsimp only at hd hq ⊢ <;> first | exact hd.elim | (cases hq; done) | skip
    case move x => obtain ⟨v, hv, hd⟩ := withV_of hd; exact ⟨v, hd, (fun r hr => by cases hr), fun h' _ => by rw [hv]; rfl⟩
    case assign x => obtain ⟨v, hv, hd⟩ := withV_of hd; exact ⟨v, hd, (fun r hr => by cases hr), fun h' _ => by rw [hv]; rfl⟩
    case pick c x y =>
      obtain ⟨cv, hc, hd⟩ := withL_of hd
      rw [hc]
      simp only [withL] at hd ⊢
      split at hd
      · split at hd
        · obtain ⟨v, hv, hd⟩ := withV_of hd; exact ⟨v, hd, (fun r hr => by cases hr), fun h' _ => by rw [hv]; rfl⟩
        · obtain ⟨v, hv, hd⟩ := withV_of hd; exact ⟨v, hd, (fun r hr => by cases hr), fun h' _ => by rw [hv]; rfl⟩
      · obtain ⟨va, hva, hd⟩ := withV_of hd
        obtain ⟨vb, hvb, hd⟩ := withV_of hd
        obtain ⟨v, h1, h2⟩ := detPick _ _ _ _ hd
        exact ⟨v, h1, (fun r hr => by cases hr), fun h' _ => by rw [hva, hvb]; exact h2⟩
      · exact hd.elim
    case build t ps => exact detBuild _ _ _ h K hd
    case load t x =>
      obtain ⟨v, hv, hd⟩ := withL_of hd
      have hd0 := hd
      unfold denLoad at hd0
      split at hd0
      · obtain ⟨b, o, rfl, _⟩ := withP_of hd0
        have hR : rdsOf ⟨dst, .load t x, type, pos, after, guard⟩ e = loadRd b o := by
          funext v
          simp only [rdsOf, hv]
          cases v <;> rfl
        rw [hv, hR]
        exact detLoad _ _ _ _ h K hd
      · exact hd0.elim
    case nilCheck x =>
      obtain ⟨v, hv, hd⟩ := withL_of hd
      rw [hv]
      simp only [withL] at hd ⊢
      split at hd
      · exact ⟨_, hd, (fun r hr => by cases hr), fun h' _ => rfl⟩
      · obtain ⟨b, o, ha, hd⟩ := hd
        exact ⟨_, hd, (fun r hr => by cases hr), fun h' _ => ⟨b, o, ha, rfl⟩⟩
      · exact ⟨_, hd, (fun r hr => by cases hr), fun h' _ => rfl⟩
      · exact hd.elim
    case binOp op t x y ty =>
      obtain ⟨u, hu, hd⟩ := withL_of hd
      obtain ⟨v, hv, hd⟩ := withL_of hd
      rw [hu, hv]
      obtain ⟨r, h1, h2⟩ := detBin _ _ _ _ _ _ hd
      refine ⟨_, h1, (fun r hr => by cases hr), fun h' _ => ?_⟩
      simp only [withL]
      simpa using h2
    case unOp op t x =>
      obtain ⟨v, hv, hd⟩ := withL_of hd
      rw [hv]
      simp only [withL] at hd ⊢
      split at hd <;> first | exact hd.elim | exact ⟨_, hd, (fun r hr => by cases hr), fun h' _ => rfl⟩
    case convert s d x =>
      obtain ⟨v, hv, hd⟩ := withL_of hd
      rw [hv]
      exact detConv _ _ _ _ hf h K hd
    case makeFunc fn first caps =>
      split at hd
      · exact ⟨_, hd, (fun r hr => by cases hr), fun h' _ => rfl⟩
      · exact hd.elim
    case slice t x lo hi mx =>
      obtain ⟨v, hv, hd⟩ := withL_of hd
      rw [hv]
      simp only [withL] at hd ⊢
      split at hd
      · exact detSlice _ _ _ _ _ _ h K hd
      · exact hd.elim
    case fieldAddr t x f =>
      obtain ⟨v, hv, hd⟩ := withL_of hd
      rw [hv]
      exact detFieldAddr _ _ _ _ h K hd
    case field t x f =>
      obtain ⟨v, hv, hd⟩ := withT_of hd
      rw [hv]
      exact detField _ _ _ _ h K hd
    case indexAddr t x i =>
      obtain ⟨u, hu, hd⟩ := withL_of hd
      obtain ⟨v, hv, hd⟩ := withL_of hd
      obtain ⟨k1, n1, e1, hd1⟩ := withI_of hd
      subst e1
      rw [hu, hv]
      exact detIndexAddr _ _ _ _ h K hd1
    case index t x i =>
      obtain ⟨u, hu, hd⟩ := withT_of hd
      obtain ⟨v, hv, hd⟩ := withL_of hd
      obtain ⟨k1, n1, e1, hd1⟩ := withI_of hd
      subst e1
      rw [hu, hv]
      obtain ⟨r, h1, h2⟩ := detIndex _ _ _ _ _ hd1
      refine ⟨_, h1, (fun r hr => by cases hr), fun h' _ => ?_⟩
      simp only [withT, withL, withI]
      simpa using h2
    case extract x i =>
      split at hd
      · split at hd
        · exact ⟨_, hd, (fun r hr => by cases hr), fun h' _ => rfl⟩
        · exact hd.elim
      · exact hd.elim
    case call c =>
      obtain ⟨callee, args, ts⟩ := c
      dsimp only at hd hq ⊢
      split at hd <;> first | exact hd.elim | (cases hq; done) | skip
      · split at hd
        · obtain ⟨r, h1, h2⟩ := detLen _ _ _ _ hd
          exact ⟨_, h1, (fun r hr => by cases hr), fun h' _ => by simpa using h2⟩
        · exact hd.elim
      · split at hd
        · obtain ⟨r, h1, h2⟩ := detCap _ _ _ _ hd
          exact ⟨_, h1, (fun r hr => by cases hr), fun h' _ => by simpa using h2⟩
        · exact hd.elim
      · exact ⟨_, hd, (fun r hr => by cases hr), fun h' _ => rfl⟩
      · exact ⟨_, hd, (fun r hr => by cases hr), fun h' _ => rfl⟩
  obtain ⟨v, hv, h1, h2⟩ := key h K hd
  refine ⟨v, hv, h1, fun w hw => ?_⟩
  have hp : plainOp o.op = true := by
    cases hop : o.op <;> rw [hop] at hq <;> first | rfl | (cases hq; done) | skip
    rename_i c
    simp only [quietOp, plainOp] at hq ⊢
    split at hq <;> first | (cases hq; done) | (simp_all; done)
  obtain ⟨s, ho, hs⟩ := den1_exec hX ha hp (h2 w.heap hw)
  rw [hq] at hs
  obtain ⟨u, w', hr, _, hx, sv, rfl, hsv⟩ := hs w rfl
  subst hsv
  rw [hx rfl] at hr
  rw [ho]
  simp only [Sem.run_bind, hr, Result.andThen_ok, Sem.run_pure]
end Go.Proofs.Ytjmhahjmbmiepaa.D
