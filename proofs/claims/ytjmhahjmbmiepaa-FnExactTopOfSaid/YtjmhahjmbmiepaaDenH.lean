/- One operation, whatever it is. -/
import Derived.Test.YtjmhahjmbmiepaaDenG2
namespace Go.Proofs.Ytjmhahjmbmiepaa.D
open Go

def isB : SV → Option Bool
  | .t (.l (.bool b)) => some b | .t (.l (.lit b)) => some b | _ => none
def isI : SV → Option (IntKind × Int)
  | .t (.l (.int k x)) => some (k, x) | _ => none
theorem isB_of {v : SV} {b : Bool} (h : isB v = some b) : v.val = .bool b := by
  unfold isB at h; split at h <;> first | cases h; rfl | cases h
theorem isI_of {v : SV} {k : IntKind} {x : Int} (h : isI v = some (k, x)) : v.val = .int k x := by
  unfold isI at h; split at h <;> first | cases h; rfl | cases h

def pickD (c : Bool) (va vb : SV) (K : SV → Prop) : Prop := match isB va, isB vb with
  | some x, some y => K (.t (.l (.bool (bif c then x else y))))
  | _, _ => match isI va, isI vb with
    | some (k, x), some (k', y) => if k = k' then K (.t (.l (.int k (bif c then x else y)))) else False
    | _, _ => (c = true → K va) ∧ (c = false → K vb)
theorem pickD_of {c : Bool} {va vb : SV} {K : SV → Prop} (h : pickD c va vb K) : ∃ v : SV, v.val = (if c then va.val else vb.val) ∧ K v := by
  unfold pickD at h
  split at h
  · rename_i x y hx hy
    refine ⟨_, ?_, h⟩
    rw [isB_of hx, isB_of hy]; cases c <;> rfl
  · split at h
    · rename_i k x k' y hx hy
      split at h
      · rename_i hk
        subst hk
        refine ⟨_, ?_, h⟩
        rw [isI_of hx, isI_of hy]; cases c <;> rfl
      · exact h.elim
    · cases c with
      | true => exact ⟨va, rfl, h.1 rfl⟩
      | false => exact ⟨vb, rfl, h.2 rfl⟩

def placesOf (T : Types) : List (Nat × TypeId) → Option (List (Nat × Nat))
  | [] => some []
  | (off, ft) :: r => match look T ft, placesOf T r with
    | some i, some l => some ((off, i.leaves.length) :: l)
    | _, _ => none
def denBuild (T : Types) (t : TypeId) (ps : Option (List (Nat × TV))) (h : Heap) (K : KS) : Prop := match look T t, ps with
  | some ⟨.struct fs, ls, _⟩, some l => (match placesOf T fs with
    | some pl => (match fillLV (fun i => pl[i]?) (ls.map Leaf.zeroL) l with
      | some cs => K (.t (.agg cs)) h
      | none => False)
    | none => False)
  | some ⟨.arr _ e, ls, _⟩, some l => (match look T e with
    | some j => (match fillLV (fun i => some (mulS i j.leaves.length, j.leaves.length)) (ls.map Leaf.zeroL) l with
      | some cs => K (.t (.agg cs)) h
      | none => False)
    | none => False)
  | _, _ => False

section
variable {xf : Bool} {P : Program} {h : Heap} {T : Types}

theorem sok_places (hT : TOk P T) : ∀ (gs : List Field) {pl : List (Nat × Nat)} {K : List (Nat × Nat) → Heap → Prop}, placesOf T (gs.map fun f => (f.offset, f.type)) = some pl → K pl h →
    SOk xf P (gs.mapM fun f => do Pure.pure (f.offset, ← sizeOf f.type)) h K
  | [], pl, K, hp, k => by
    injection hp with hp
    subst hp
    exact SOk.pure k
  | g :: gs, pl, K, hp, k => by
    simp only [List.map_cons, placesOf] at hp
    split at hp
    · rename_i i l hi hl
      injection hp with hp
      subst hp
      rw [List.mapM_cons]
      refine SOk.bind (SOk.bind (hT.sok_size hi (SOk.pure ?_)))
      refine SOk.bind (sok_places hT gs hl ?_)
      exact SOk.pure k
    · cases hp

theorem zero_struct {fs : List (Nat × TypeId)} {ls : List Leaf} {b : Nat} : (TI.zero ⟨.struct fs, ls, b⟩).cells = ⟨ls.map Leaf.zero⟩ := TI.zero_cells rfl
theorem zero_arr {n : Nat} {e : TypeId} {ls : List Leaf} {b : Nat} : (TI.zero ⟨.arr n e, ls, b⟩).cells = ⟨ls.map Leaf.zero⟩ := TI.zero_cells rfl

theorem denBuild_sound (hT : TOk P T) {t : TypeId} {ps : Option (List (Nat × TV))} {vs : Array (Nat × Value)} {K : KS}
    (hv : ∀ l, ps = some l → vs = ⟨l.map fun p => (p.1, p.2.val)⟩) (hd : denBuild T t ps h K) : VOk xf P (Instr.build t vs) h K := by
  unfold denBuild at hd
  split at hd
  · rename_i fs ls _ l ht
    rw [hv l rfl]
    split at hd
    · rename_i pl hpl
      split at hd
      · rename_i cs hcs
        unfold Instr.build
        refine SOk.bind (hT.sok_zero ht ?_)
        refine SOk.bind (hT.sok_under ht fun d hdd => ?_)
        obtain ⟨gs, rfl, hg⟩ := strip_struct hdd
        dsimp only
        rw [zero_struct]
        rw [← hg] at hpl
        rw [Array.mapM_eq_mapM_toList]
        refine SOk.bind (SOk.bind (sok_places hT gs.toList hpl (SOk.pure ?_)))
        have hf := fillLV_sound l _ cs hcs
        rw [map_zeroL] at hf
        have e1 : (fun i : Nat => (pl.toArray)[i]?) = (fun i : Nat => pl[i]?) := by funext i; simp
        simp only [e1, hf]
        exact VOk.pure _ rfl hd
      · exact hd.elim
    · exact hd.elim
  · rename_i n e ls _ l ht
    rw [hv l rfl]
    split at hd
    · rename_i j hj
      split at hd
      · rename_i cs hcs
        unfold Instr.build
        refine SOk.bind (hT.sok_zero ht ?_)
        refine SOk.bind (hT.sok_under ht fun d hdd => ?_)
        rw [strip_arr hdd]
        dsimp only
        rw [zero_arr]
        refine SOk.bind (hT.sok_size hj ?_)
        have hf := fillLV_sound l _ cs hcs
        rw [map_zeroL] at hf
        have hm : (fun i => some (mulS i j.leaves.length, j.leaves.length)) = (fun i => some (i * j.leaves.length, j.leaves.length)) := by
          funext j; rw [mulS_eq]
        rw [hm] at hf
        simp only [hf]
        exact VOk.pure _ rfl hd
      · exact hd.elim
    · exact hd.elim
  · exact hd.elim
end

/-! ### The call -/

def vtOf (T : Types) (t : TypeId) : List VT := match look T t with
  | some i => bif i.agg then [.agg i.leaves] else (match i.leaves with | [l] => [.l l] | _ => [])
  | none => []
def callD (X : Ctx) (t : TypeId) (f : LV) (args : List Value) (h : Heap) (K : KS) : Prop := match f with
  | .fn g caps => (match look X.F g with
    | some ts => CallsH X.P g (args ++ caps) h fun v h' => exR ts v fun sv => K sv h'
    | none => (match look X.E g with
      | some ts => ExtH X.P g (args ++ caps) h fun v h' => exR ts v fun sv => K sv h'
      | none => False))
  | .any v => ∃ g caps, v = .func (.func g) #[] ⟨caps⟩ ∧ Callable X.P g ∧ CallsH X.P g (args ++ caps) h fun v h' => exR (vtOf X.T t) v fun sv => K sv h'
  | _ => False

def optI (e : Env) : Option Operand → Option (Option (IntKind × Int))
  | none => some none
  | some x => match rho e x with
    | some (.t (.l (.int k n))) => some (some (k, n))
    | _ => none
theorem optI_sound {e : Env} {a : Act} (ha : Agree e a) {x : Option Operand} {r : Option (IntKind × Int)} (h : optI e x = some r) :
    x.map a.eval = r.map fun p => .int p.1 p.2 := by
  cases x with
  | none => injection h with h; subst h; rfl
  | some x =>
    simp only [optI] at h
    split at h
    · rename_i k n hx
      injection h with h
      subst h
      have := rho_sound ha hx
      simp [this, SV.val, TV.val, LV.val]
    · cases h

def allL' : List TV → Option (List Value)
  | [] => some []
  | .l v :: r => (allL' r).map (v.val :: ·)
  | _ => none
theorem allL'_of : ∀ {vs : List TV} {us : List Value}, allL' vs = some us → us = vs.map TV.val
  | [], us, h => by injection h with h; subst h; rfl
  | .l v :: r, us, h => by
    simp only [allL'] at h
    cases hr : allL' r with
    | none => rw [hr] at h; cases h
    | some l => rw [hr] at h; injection h with h; subst h; rw [allL'_of hr]; rfl
  | .agg _ :: _, us, h => by cases h

def den1 (X : Ctx) (o : Oper) (e : Env) (h : Heap) (K : KS) : Prop := match o.op with
  | .move x => withV (rho e x) fun v => K v h
  | .assign x => withV (rho e x) fun v => K v h
  | .pick c a b => withL (rho e c) fun cv => (match cv with
    | .lit t => (match t with
      | true => withV (rho e a) fun v => K v h
      | false => withV (rho e b) fun v => K v h)
    | .bool c => withV (rho e a) fun va => withV (rho e b) fun vb => pickD c va vb fun v => K v h
    | _ => False)
  | .alloc t => denAlloc X.T t h K
  | .box t x => withT (rho e x) fun v => denBox t v h K
  | .build t ps => denBuild X.T t (rhoParts e ps.toList) h K
  | .buildSlice t n ps => denBuildSlice X.T t n (rhoParts e ps.toList) h K
  | .load t x => withL (rho e x) fun v => denLoad X.T t v h K
  | .store t x v => bif o.dst.isNone then withL (rho e x) fun p => withT (rho e v) fun u => denStore X.T t p u h fun h' => K (.tup []) h' else False
  | .nilCheck x => withL (rho e x) fun v => (match v with
    | .ptrB b o => K (.t (.l (.ptrB b o))) h
    | .ptr a => ∃ b o, a = some ⟨b, o, none⟩ ∧ K (.t (.l (.ptrB b o))) h
    | .fn f c => K (.t (.l (.fn f c))) h
    | _ => False)
  | .binOp op t x y _ => withL (rho e x) fun a => withL (rho e y) fun b => denBin X op t a b fun v => K (.t (.l v)) h
  | .unOp op _ x => withL (rho e x) fun v => (match op, v with
    | .not, .bool b => K (.t (.l (.bool (!b)))) h
    | .not, .lit b => K (.t (.l (.lit (!b)))) h
    | .neg, .int k n => K (.t (.l (.int k (k.wrap (0 - n))))) h
    | _, _ => False)
  | .convert s d x => withL (rho e x) fun v => denConv X.T s d v h fun v => K (.t (.l v)) h
  | .makeFunc fn first caps => (match fn, first.toList, (rhoAll e caps.toList).bind allL' with
    | .func f, [], some vs => K (.t (.l (.fn f vs))) h
    | _, _, _ => False)
  | .makeSlice t l c => withL (rho e l) fun l => withL (rho e c) fun c => withI l fun _ l => withI c fun _ c => denMake X.T t l c h K
  | .slice t x lo hi mx => withL (rho e x) fun v => (match optI e lo, optI e hi, mx with
    | some lo, some hi, none => denSlice X.T t v (lo.map (·.2)) (hi.map (·.2)) none h K
    | _, _, _ => False)
  | .fieldAddr t x f => withL (rho e x) fun v => denFieldAddr X.T t v f h K
  | .field t x f => withT (rho e x) fun v => denField X.T t v f h K
  | .indexAddr t x i => withL (rho e x) fun v => withL (rho e i) fun i => withI i fun _ i => denIndexAddr X.T t v i h K
  | .index t x i => withT (rho e x) fun v => withL (rho e i) fun i => withI i fun _ i => denIndex X.T t v i fun v => K (.t (.l v)) h
  | .extract x i => (match rho e x with
    | some (.tup vs) => (match vs[i]? with
      | some v => K (.t v) h
      | none => False)
    | _ => False)
  | .call c => (match c.callee, rhoAll e c.args.toList with
    | .builtin .len, some [.l x] => (match c.argTypes.toList with | [t] => denLen X.T t x fun v => K (.t (.l v)) h | _ => False)
    | .builtin .cap, some [.l x] => (match c.argTypes.toList with | [t] => denCap X.T t x fun v => K (.t (.l v)) h | _ => False)
    | .builtin .append, some [.l x, .l y] => (match c.argTypes.toList with | [t, t'] => bif Nat.beq t t' then denAppend X.T t x y h K else (match y with | .int .i64 m => denAppendZ X.T t t' x m h K | _ => False) | _ => False)
    | .builtin .copy, some [.l x, .l y] => (match c.argTypes.toList with | [t, _] => denCopy X.T t x y h K | _ => False)
    | .builtin .min, some [.l (.int k x), .l (.int _ y)] => K (.t (.l (.int k (minI x y)))) h
    | .builtin .max, some [.l (.int k x), .l (.int _ y)] => K (.t (.l (.int k (maxI x y)))) h
    | .value f, some vs => withL (rho e f) fun f => callD X o.type f (vs.map TV.val) h K
    | _, _ => False)
  | _ => False

/-- The operation comes to 'K'. -/
def OpOk (P : Program) (o : Oper) (a : Act) (h : Heap) (K : KS) : Prop :=
  ∀ w : World, w.heap = h → ∀ (next : Act → World → Prop) (Q : Exit → Act → World → Prop), (∀ v w', Same w w' → K v w'.heap → next (a.put o.dst (SV.val v)) w') → o.wp P a w next Q

section
variable {xf : Bool} {P : Program} {h : Heap} {o : Oper} {a : Act} {K : KS}
theorem opOk_value {s : Sem Value} (hs : VOk false P s h K) (ho : execOp a.eval o = (do Pure.pure (.value (← s)))) : OpOk P o a h K := by
  intro w hw next Q hn
  obtain ⟨v, w', hr, hsame, _, sv, rfl, hK⟩ := hs w hw
  unfold Oper.wp
  rw [ho]
  simp only [Sem.run_bind, hr, Result.andThen_ok, Sem.run_pure, Oper.upon_value]
  exact hn sv w' hsame hK
/-- The operation is one run. -/
def Ex (xf : Bool) (P : Program) (o : Oper) (a : Act) (h : Heap) (K : KS) : Prop := ∃ s, execOp a.eval o = (do Pure.pure (.value (← s))) ∧ VOk xf P s h K
theorem ex_value {xf : Bool} {s : Sem Value} (hs : VOk xf P s h K) (ho : execOp a.eval o = (do Pure.pure (.value (← s)))) : Ex xf P o a h K := ⟨s, ho, hs⟩
theorem ex_pure {xf : Bool} {v : Value} {sv : SV} (hk : K sv h) (hv : v = sv.val) (ho : execOp a.eval o = Pure.pure (.value v)) : Ex xf P o a h K := by
  refine ⟨Pure.pure v, ?_, VOk.pure sv hv hk⟩
  rw [ho]; rfl
theorem opOk_pure {v : Value} {sv : SV} (hk : K sv h) (hv : v = sv.val) (ho : execOp a.eval o = Pure.pure (.value v)) : OpOk P o a h K := by
  intro w hw next Q hn
  subst hw
  subst hv
  unfold Oper.wp
  rw [ho]
  simp only [Sem.run_pure, Oper.upon_value]
  exact hn sv w (Same.refl w) hk
theorem opOk_unit {s : Sem Unit} (hs : SOk false P s h fun _ h' => K (.tup []) h') (hd : o.dst = none) (ho : execOp a.eval o = (do s; Pure.pure .skip)) : OpOk P o a h K := by
  intro w hw next Q hn
  obtain ⟨v, w', hr, hsame, _, hK⟩ := hs w hw
  unfold Oper.wp
  rw [ho]
  simp only [Sem.run_bind, hr, Result.andThen_ok, Sem.run_pure, Oper.upon_skip]
  have := hn _ w' hsame hK
  rw [hd] at this ⊢
  exact this
theorem opOk_enter {g : FuncId} {args : List Value} (hs : CallsH P g args h fun v h' => ∃ sv : SV, v = sv.val ∧ K sv h') (ho : ∀ w, (execOp a.eval o).run P w = .ok (.enter g ⟨args⟩) w) : OpOk P o a h K := by
  intro w hw next Q hn
  unfold Oper.wp
  rw [ho, Oper.upon_enter]
  refine (hs w hw).mono ?_
  rintro e w' ⟨v, rfl, hsame, sv, rfl, hK⟩
  exact hn sv w' hsame hK

theorem opOk_ext {g : FuncId} {args : List Value} (hs : ExtH P g args h fun v h' => ∃ sv : SV, v = sv.val ∧ K sv h') (ho : execOp a.eval o = callFunc g ⟨args⟩) : OpOk P o a h K := by
  intro w hw next Q hn
  obtain ⟨v, w', hr, hsame, sv, rfl, hK⟩ := hs w hw
  unfold Oper.wp
  rw [ho, hr]
  simp only [Oper.upon_value]
  exact hn sv w' hsame hK
end

theorem run_callFunc {P : Program} {g : FuncId} {args : Array Value} (hc : Callable P g) (w : World) : (callFunc g args).run P w = .ok (.enter g args) w := by
  obtain ⟨fn, hf, hb, hn⟩ := hc
  unfold callFunc
  simp only [program, Sem.run_bind, Sem.run, Result.andThen_ok, hf, hb, hn, Bool.false_eq_true, if_false]
  rfl


/-- Operations that leave the world as it is. -/
def quietOp : Op → Bool
  | .move _ | .assign _ | .pick .. | .build .. | .load .. | .nilCheck _ | .binOp .. | .unOp .. | .convert .. | .makeFunc .. | .slice .. | .fieldAddr .. | .field .. | .indexAddr .. | .index .. | .extract .. => true
  | .call c => (match c.callee with
    | .builtin .len | .builtin .cap | .builtin .min | .builtin .max => true
    | _ => false)
  | _ => false
def plainOp : Op → Bool
  | .store .. => false
  | .call c => (match c.callee with
    | .value _ => false
    | _ => true)
  | _ => true
set_option maxHeartbeats 2000000 in
theorem den1_exec {X : Ctx} (hX : X.Ok) {o : Oper} {e : Env} {a : Act} (ha : Agree e a) {h : Heap} {K : KS} (hp : plainOp o.op = true) (hd : den1 X o e h K) : Ex (quietOp o.op) X.P o a h K := by
  have hT := hX.types
  obtain ⟨dst, op, type, pos, after, guard⟩ := o
  unfold den1 at hd
  cases op <;> dsimp only at hd hp <;> first | exact hd.elim | (cases hp; done) | skip
  case move x =>
    obtain ⟨v, hv, hd⟩ := withV_of hd
    exact ex_pure hd rfl (by simp [execOp, rho_sound ha hv])
  case assign x =>
    obtain ⟨v, hv, hd⟩ := withV_of hd
    exact ex_pure hd rfl (by simp [execOp, rho_sound ha hv])
  case pick c x y =>
    obtain ⟨cv, hc, hd⟩ := withL_of hd
    have hce := rho_sound ha hc
    split at hd
    · rename_i t
      split at hd
      · obtain ⟨v, hv, hd⟩ := withV_of hd
        refine ex_value (s := Pure.pure v.val) (VOk.pure _ rfl hd) ?_
        simp only [execOp, hce, rho_sound ha hv]; rfl
      · obtain ⟨v, hv, hd⟩ := withV_of hd
        refine ex_value (s := Pure.pure v.val) (VOk.pure _ rfl hd) ?_
        simp only [execOp, hce, rho_sound ha hv]; rfl
    · rename_i c'
      obtain ⟨va, hva, hd⟩ := withV_of hd
      obtain ⟨vb, hvb, hd⟩ := withV_of hd
      obtain ⟨v, hv, hd⟩ := pickD_of hd
      refine ex_value (s := Pure.pure v.val) (VOk.pure _ rfl hd) ?_
      simp only [execOp, hce, rho_sound ha hva, rho_sound ha hvb, hv]; rfl
    · exact hd.elim
  case alloc t => exact ex_value (denAlloc_sound hT hd) rfl
  case box t x =>
    obtain ⟨v, hv, hd⟩ := withT_of hd
    exact ex_value (denBox_sound hd) (by simp only [execOp, rho_sound ha hv, SV.val])
  case build t ps =>
    refine ex_value (denBuild_sound hT (vs := ps.map fun p => (p.1, a.eval p.2)) ?_ hd) rfl
    intro l hl
    apply Array.toList_inj.1
    simpa using rhoParts_sound ha _ hl
  case buildSlice t n ps =>
    refine ex_value (denBuildSlice_sound hT (vs := ps.map fun p => (p.1, a.eval p.2)) ?_ hd) rfl
    intro l hl
    apply Array.toList_inj.1
    simpa using rhoParts_sound ha _ hl
  case load t x =>
    obtain ⟨v, hv, hd⟩ := withL_of hd
    refine ex_value (denLoad_sound hT hd) ?_
    simp only [execOp, rho_sound ha hv]; rfl
  case nilCheck x =>
    obtain ⟨v, hv, hd⟩ := withL_of hd
    have he := rho_sound ha hv
    split at hd
    · exact ex_pure hd rfl (by simp only [execOp, he]; rfl)
    · obtain ⟨b, o, rfl, hd⟩ := hd
      exact ex_pure hd rfl (by simp only [execOp, he]; rfl)
    · exact ex_pure hd rfl (by simp only [execOp, he]; rfl)
    · exact hd.elim
  case binOp op t x y ty =>
    obtain ⟨u, hu, hd⟩ := withL_of hd
    obtain ⟨v, hv, hd⟩ := withL_of hd
    refine ex_value (denBin_sound hX (xo := x) (yo := y) hd) ?_
    simp only [execOp, rho_sound ha hu, rho_sound ha hv, SV.val, TV.val]
  case unOp op t x =>
    obtain ⟨v, hv, hd⟩ := withL_of hd
    have he := rho_sound ha hv
    split at hd
    · exact ex_value (s := Pure.pure (.bool _)) (VOk.pure _ rfl hd) (by simp only [execOp, he]; rfl)
    · exact ex_value (s := Pure.pure (.bool _)) (VOk.pure _ rfl hd) (by simp only [execOp, he]; rfl)
    · exact ex_value (s := Pure.pure (.int _ _)) (VOk.pure _ rfl hd) (by simp only [execOp, he]; rfl)
    · exact hd.elim
  case convert s d x =>
    obtain ⟨v, hv, hd⟩ := withL_of hd
    refine ex_value (denConv_sound hT hd) ?_
    simp only [execOp, rho_sound ha hv]; rfl
  case makeFunc fn first caps =>
    split at hd
    · rename_i f vs h1 h2
      have h1 : first = #[] := by apply Array.toList_inj.1; exact h1
      subst h1
      cases hr : rhoAll e caps.toList with
      | none => rw [hr] at h2; cases h2
      | some us =>
        rw [hr] at h2
        have h3 := allL'_of h2
        refine ex_value (s := Pure.pure (Value.func (.func f) #[] ⟨vs⟩)) (VOk.pure _ rfl hd) ?_
        have h4 : caps.map a.eval = ⟨vs⟩ := by
          apply Array.toList_inj.1
          simp [rhoAll_sound ha _ hr, h3]
        simp only [execOp, h4, Array.map_empty]; rfl
    · exact hd.elim
  case makeSlice t l c =>
    obtain ⟨u, hu, hd⟩ := withL_of hd
    obtain ⟨v, hv, hd⟩ := withL_of hd
    obtain ⟨k1, n1, e1, hd1⟩ := withI_of hd
    obtain ⟨k2, n2, e2, hd2⟩ := withI_of hd1
    subst e1 e2
    refine ex_value (denMake_sound hT (kl := k1) (kc := k2) hd2) ?_
    simp only [execOp, rho_sound ha hu, rho_sound ha hv]; rfl
  case slice t x lo hi mx =>
    obtain ⟨v, hv, hd⟩ := withL_of hd
    split at hd
    · rename_i l hh h1 h2 _
      have e1 := optI_sound ha h1
      have e2 := optI_sound ha h2
      refine ex_value (s := Instr.sliceAt t v.val ((l.map (·.2)).map fun n => .int ((l.map (·.1)).getD .i64) n) ((hh.map (·.2)).map fun n => .int ((hh.map (·.1)).getD .i64) n) none) (denSlice_sound hT hd) ?_
      simp only [execOp, rho_sound ha hv, e1, e2]
      cases l <;> cases hh <;> rfl
    · exact hd.elim
  case fieldAddr t x f =>
    obtain ⟨v, hv, hd⟩ := withL_of hd
    refine ex_value (denFieldAddr_sound hT hd) ?_
    simp only [execOp, rho_sound ha hv]; rfl
  case field t x f =>
    obtain ⟨v, hv, hd⟩ := withT_of hd
    refine ex_value (denField_sound hT hd) ?_
    simp only [execOp, rho_sound ha hv]; rfl
  case indexAddr t x i =>
    obtain ⟨u, hu, hd⟩ := withL_of hd
    obtain ⟨v, hv, hd⟩ := withL_of hd
    obtain ⟨k1, n1, e1, hd1⟩ := withI_of hd
    subst e1
    refine ex_value (denIndexAddr_sound hT (k := k1) hd1) ?_
    simp only [execOp, rho_sound ha hu, rho_sound ha hv]; rfl
  case index t x i =>
    obtain ⟨u, hu, hd⟩ := withT_of hd
    obtain ⟨v, hv, hd⟩ := withL_of hd
    obtain ⟨k1, n1, e1, hd1⟩ := withI_of hd
    subst e1
    refine ex_value (denIndex_sound hT (k := k1) hd1) ?_
    simp only [execOp, rho_sound ha hu, rho_sound ha hv]; rfl
  case extract x i =>
    split at hd
    · rename_i vs hvs
      split at hd
      · rename_i v hv
        refine ex_value (s := Pure.pure v.val) (VOk.pure _ rfl hd) ?_
        have : (⟨vs.map TV.val⟩ : Array Value)[i]? = some v.val := by simp [hv]
        simp only [execOp, rho_sound ha hvs, SV.val, Instr.extract, this]
      · exact hd.elim
    · exact hd.elim
  case call c =>
    obtain ⟨callee, args, ts⟩ := c
    have hargs : ∀ vs, rhoAll e args.toList = some vs → args.map a.eval = ⟨vs.map TV.val⟩ := fun vs hv => by
      apply Array.toList_inj.1
      simp [rhoAll_sound ha _ hv]
    dsimp only at hd
    split at hd
    · rename_i x h1
      split at hd
      · rename_i t ht
        have ht : ts = #[t] := by apply Array.toList_inj.1; exact ht
        subst ht
        exact ex_value (denLen_sound hT (ty := type) hd) (by simp only [execOp, resolve, hargs _ h1]; rfl)
      · exact hd.elim
    · rename_i x h1
      split at hd
      · rename_i t ht
        have ht : ts = #[t] := by apply Array.toList_inj.1; exact ht
        subst ht
        exact ex_value (denCap_sound hT (ty := type) hd) (by simp only [execOp, resolve, hargs _ h1]; rfl)
      · exact hd.elim
    · rename_i x y h1
      split at hd
      · rename_i t t' ht
        have ht : ts = #[t, t'] := by apply Array.toList_inj.1; exact ht
        subst ht
        cases htt : Nat.beq t t' with
        | false =>
          rw [htt] at hd
          simp only [cond_false] at hd
          split at hd
          · exact ex_value (denAppendZ_sound hT (ty := type) hd) (by simp only [execOp, resolve, hargs _ h1]; rfl)
          · exact hd.elim
        | true =>
          rw [htt] at hd
          have := Nat.eq_of_beq_eq_true htt
          subst this
          exact ex_value (denAppend_sound hT (ty := type) hd) (by simp only [execOp, resolve, hargs _ h1]; rfl)
      · exact hd.elim
    · rename_i x y h1
      split at hd
      · rename_i t t' ht
        have ht : ts = #[t, t'] := by apply Array.toList_inj.1; exact ht
        subst ht
        exact ex_value (denCopy_sound hT (ty := type) hd) (by simp only [execOp, resolve, hargs _ h1]; rfl)
      · exact hd.elim
    · rename_i k x k' y h1
      exact ex_value (denMin_sound (k' := k') (ts := ts) (ty := type) hd) (by simp only [execOp, resolve, hargs _ h1]; rfl)
    · rename_i k x k' y h1
      refine ex_value (s := Builtin.max_ ts type #[.int k x, .int k' y]) ?_ (by simp only [execOp, resolve, hargs _ h1]; rfl)
      unfold Builtin.max_
      simp only [List.foldlM_cons, List.foldlM_nil]
      exact SOk.bind (SOk.pure (VOk.pure _ rfl hd))
    · cases hp
    · exact hd.elim

theorem den1_sound {X : Ctx} (hX : X.Ok) {o : Oper} {e : Env} {a : Act} (ha : Agree e a) {h : Heap} {K : KS} (hd : den1 X o e h K) : OpOk X.P o a h K := by
  cases hp : plainOp o.op with
  | true =>
    obtain ⟨s, ho, hs⟩ := den1_exec hX ha hp hd
    refine opOk_value (hs := ?_) ho
    intro w hw
    obtain ⟨v, w', h1, h2, _, h3⟩ := hs w hw
    exact ⟨v, w', h1, h2, (fun hx => by cases hx), h3⟩
  | false =>
    have hT := hX.types
    obtain ⟨dst, op, type, pos, after, guard⟩ := o
    unfold den1 at hd
    cases op <;> dsimp only at hd hp <;> first | exact hd.elim | (simp [plainOp] at hp; done) | skip
    case store t x y =>
      cases hdst : dst with
      | some d => rw [hdst] at hd; exact hd.elim
      | none =>
        subst hdst
        obtain ⟨p, hp, hd⟩ := withL_of hd
        obtain ⟨u, hu, hd⟩ := withT_of hd
        refine opOk_unit (denStore_sound hT hd) rfl ?_
        simp only [execOp, rho_sound ha hp, rho_sound ha hu]; rfl

    case call c =>
      obtain ⟨callee, args, ts⟩ := c
      cases callee <;> first | (simp [plainOp] at hp; done) | skip
      rename_i f
      have hargs : ∀ vs, rhoAll e args.toList = some vs → args.map a.eval = ⟨vs.map TV.val⟩ := fun vs hv => by
        apply Array.toList_inj.1
        simp [rhoAll_sound ha _ hv]
      dsimp only at hd
      split at hd <;> first | (rename_i hh _; cases hh; done) | (rename_i hh; cases hh; done) | skip
      · rename_i f' vs hf0 h1
        cases hf0
        obtain ⟨fv, hf, hd⟩ := withL_of hd
        have he := rho_sound ha hf
        have go : ∀ (g : FuncId) (caps : List Value) (R : Value → Heap → Prop), fv.val = .func (.func g) #[] ⟨caps⟩ → Callable X.P g → CallsH X.P g (vs.map TV.val ++ caps) h R →
            (∀ v h', R v h' → ∃ sv : SV, v = sv.val ∧ K sv h') → OpOk X.P ⟨dst, .call ⟨.value f, args, ts⟩, type, pos, after, guard⟩ a h K := by
          intro g caps R hfv hg hc hR
          refine opOk_enter (hc.mono hR) ?_
          intro w
          have hap : (#[] ++ (⟨vs.map TV.val⟩ : Array Value)) ++ ⟨caps⟩ = ⟨vs.map TV.val ++ caps⟩ := by
            apply Array.toList_inj.1; simp
          simp only [execOp, resolve, hargs _ h1, he, SV.val, TV.val, hfv, Deferred.ofValue, Sem.run_bind, Sem.run_pure, Result.andThen_ok, invoke, hap, run_callFunc hg]
        unfold callD at hd
        split at hd
        · rename_i g caps
          split at hd
          · rename_i rs hrs
            exact go g caps _ rfl (hX.funcs _ (look_mem hrs)) hd fun v h' hR => exR_of hR
          · split at hd
            · refine opOk_ext (g := g) (args := vs.map TV.val ++ caps) ?_ ?_
              · intro w hw
                obtain ⟨v, w', hr, hsame, hR⟩ := hd w hw
                exact ⟨v, w', hr, hsame, exR_of hR⟩
              · have hap : (#[] ++ (⟨vs.map TV.val⟩ : Array Value)) ++ ⟨caps⟩ = ⟨vs.map TV.val ++ caps⟩ := by
                  apply Array.toList_inj.1; simp
                have hfv : (LV.fn g caps).val = .func (.func g) #[] ⟨caps⟩ := rfl
                simp only [execOp, resolve, hargs _ h1, he, SV.val, TV.val, hfv, Deferred.ofValue, pure_bind, invoke, hap]
            · exact hd.elim
        · rename_i v
          obtain ⟨g, caps, rfl, hg, hd⟩ := hd
          exact go g caps _ rfl hg hd fun v h' hR => exR_of hR
        · exact hd.elim
      · exact hd.elim
end Go.Proofs.Ytjmhahjmbmiepaa.D
