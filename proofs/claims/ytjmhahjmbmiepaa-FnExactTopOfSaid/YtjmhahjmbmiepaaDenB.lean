/- The operations, read at the heap: each is a plain condition and what follows. -/
import Derived.Test.YtjmhahjmbmiepaaDenA
namespace Go.Proofs.Ytjmhahjmbmiepaa.D
open Go

/-! ### Values whose form is known -/

inductive LV where
  | int (k : IntKind) (x : Int) | bool (b : Bool) | lit (b : Bool) | str (s : ByteArray)
  | sl (a : Option Addr) (n c : Nat) | slB (b o n c : Nat) | ptr (a : Option Addr) | ptrB (b o : Nat)
  | fn (f : FuncId) (caps : List Value) | any (v : Value) | un

def LV.val : LV → Value
  | .int k x => .int k x | .bool b => .bool b | .lit b => .bool b | .str s => .string s
  | .sl a n c => .slice a n c | .slB b o n c => .slice (some ⟨b, o, none⟩) n c | .ptr a => .pointer a | .ptrB b o => .pointer (some ⟨b, o, none⟩)
  | .fn f caps => .func (.func f) #[] ⟨caps⟩ | .any v => v | .un => undef

inductive TV where
  | l (v : LV) | agg (vs : List LV)
inductive SV where
  | t (v : TV) | tup (vs : List TV)

def TV.val : TV → Value
  | .l v => v.val | .agg vs => .agg ⟨vs.map LV.val⟩
def SV.val : SV → Value
  | .t v => v.val | .tup vs => .tuple ⟨vs.map TV.val⟩

def LV.ok : LV → Bool
  | .any _ => false | .un => false | _ => true
theorem LV.cells {v : LV} (h : v.ok = true) : v.val.cells = #[v.val] := by cases v <;> first | rfl | cases h
def TV.cells : TV → List LV
  | .l v => [v] | .agg vs => vs
def TV.ok : TV → Bool
  | .l v => v.ok | .agg vs => vs.all LV.ok
theorem TV.val_cells {v : TV} (h : v.ok = true) : v.val.cells = ⟨v.cells.map LV.val⟩ := by
  cases v with
  | l v => exact LV.cells h
  | agg vs => rfl

def leafOf : Value → LV
  | .int k n => .int k n | .bool b => .lit b | .string s => .str s | .slice a n c => .sl a n c | .pointer a => .ptr a | v => .any v
theorem leafOf_val (v : Value) : (leafOf v).val = v := by cases v <;> rfl
def ofConst : Value → TV
  | .agg cs => .agg (cs.toList.map leafOf)
  | v => .l (leafOf v)
theorem ofConst_val (v : Value) : (ofConst v).val = v := by
  cases v with
  | agg cs =>
    show Value.agg ⟨(cs.toList.map leafOf).map LV.val⟩ = _
    rw [List.map_map]
    have : LV.val ∘ leafOf = id := funext leafOf_val
    rw [this, List.map_id]
  | _ => rfl

/-! ### The frame: what is known of it -/

abbrev Env := List (Nat × Option SV)
def rho (e : Env) : Operand → Option SV
  | .tmp t => match look e t with
    | some v => v
    | none => none
  | .const v => some (.t (ofConst v))
  | .func f => some (.t (.l (.fn f [])))
  | .global g => some (.t (.l (.ptrB g 0)))

def Agree (e : Env) (a : Act) : Prop := ∀ t v, look e t = some (some v) → a.tmps.getD t undef = v.val ∧ t < a.tmps.size

theorem rho_sound {e : Env} {a : Act} (ha : Agree e a) {x : Operand} {v : SV} (h : rho e x = some v) : a.eval x = v.val := by
  cases x with
  | tmp t =>
    simp only [rho] at h
    cases hl : look e t with
    | none => rw [hl] at h; cases h
    | some u =>
      rw [hl] at h
      subst h
      exact (ha t v hl).1
  | const u => injection h with h; subst h; exact (ofConst_val u).symm
  | global g => injection h with h; subst h; rfl
  | func f => injection h with h; subst h; rfl

def withV (o : Option SV) (k : SV → Prop) : Prop := match o with
  | some v => k v
  | none => False
def withT (o : Option SV) (k : TV → Prop) : Prop := match o with
  | some (.t v) => k v
  | _ => False
def withL (o : Option SV) (k : LV → Prop) : Prop := match o with
  | some (.t (.l v)) => k v
  | _ => False
theorem withV_of {o : Option SV} {k : SV → Prop} (h : withV o k) : ∃ v, o = some v ∧ k v := by
  unfold withV at h; split at h
  · exact ⟨_, rfl, h⟩
  · exact h.elim
theorem withT_of {o : Option SV} {k : TV → Prop} (h : withT o k) : ∃ v, o = some (.t v) ∧ k v := by
  unfold withT at h; split at h
  · exact ⟨_, rfl, h⟩
  · exact h.elim
theorem withL_of {o : Option SV} {k : LV → Prop} (h : withL o k) : ∃ v, o = some (.t (.l v)) ∧ k v := by
  unfold withL at h; split at h
  · exact ⟨_, rfl, h⟩
  · exact h.elim

def withI (v : LV) (k : IntKind → Int → Prop) : Prop := match v with
  | .int kd x => k kd x
  | _ => False
def withB (v : LV) (k : Bool → Prop) : Prop := match v with
  | .bool b => k b
  | .lit b => k b
  | _ => False
def withP (v : LV) (k : Nat → Nat → Prop) : Prop := match v with
  | .ptrB b o => k b o
  | _ => False
def withS (v : LV) (k : Option Addr → Nat → Nat → Prop) : Prop := match v with
  | .sl a n c => k a n c
  | .slB b o n c => k (some ⟨b, o, none⟩) n c
  | _ => False
theorem withI_of {v : LV} {k : IntKind → Int → Prop} (h : withI v k) : ∃ kd x, v = .int kd x ∧ k kd x := by
  unfold withI at h; split at h
  · exact ⟨_, _, rfl, h⟩
  · exact h.elim
theorem withB_of {v : LV} {k : Bool → Prop} (h : withB v k) : ∃ b, v.val = .bool b ∧ k b := by
  unfold withB at h; split at h
  · exact ⟨_, rfl, h⟩
  · exact ⟨_, rfl, h⟩
  · exact h.elim
theorem withP_of {v : LV} {k : Nat → Nat → Prop} (h : withP v k) : ∃ b o, v = .ptrB b o ∧ k b o := by
  unfold withP at h; split at h
  · exact ⟨_, _, rfl, h⟩
  · exact h.elim
theorem withS_of {v : LV} {k : Option Addr → Nat → Nat → Prop} (h : withS v k) : ∃ a n c, v.val = .slice a n c ∧ k a n c := by
  unfold withS at h; split at h
  · exact ⟨_, _, _, rfl, h⟩
  · exact ⟨_, _, _, rfl, h⟩
  · exact h.elim

/-! ### Typed 'for all' and 'there is' -/

def Leaf.ex : Leaf → (LV → Prop) → Prop
  | .int k, K => ∃ x : Int, K (.int k x)
  | .bool, K => ∃ b : Bool, K (.bool b)
  | .str, K => ∃ s : ByteArray, K (.str s)
  | .slice, K => ∃ (a : Option Addr) (n c : Nat), K (.sl a n c)
  | .ptr, K => ∃ a : Option Addr, K (.ptr a)
  | .func, K => ∃ v : Value, K (.any v)
  | .iface, K => ∃ v : Value, K (.any v)
  | .ptrN, K => ∃ (b o : Nat), K (.ptrB b o)
def Leaf.all : Leaf → (LV → Prop) → Prop
  | .int k, K => ∀ x : Int, K (.int k x)
  | .bool, K => ∀ b : Bool, K (.bool b)
  | .str, K => ∀ s : ByteArray, K (.str s)
  | .slice, K => ∀ (a : Option Addr) (n c : Nat), K (.sl a n c)
  | .ptr, K => ∀ a : Option Addr, K (.ptr a)
  | .func, K => ∀ v : Value, K (.any v)
  | .iface, K => ∀ v : Value, K (.any v)
  | .ptrN, K => ∀ (b o : Nat), K (.ptrB b o)
theorem Leaf.ex_of {l : Leaf} {K : LV → Prop} (h : l.ex K) : ∃ v, K v := by
  cases l <;> first | (obtain ⟨a, n, c, h⟩ := h; exact ⟨_, h⟩) | (obtain ⟨a, n, h⟩ := h; exact ⟨_, h⟩) | (obtain ⟨x, h⟩ := h; exact ⟨_, h⟩)

inductive VT where
  | l (l : Leaf) | agg (ls : List Leaf)

def exL : List Leaf → (List LV → Prop) → Prop
  | [], K => K []
  | l :: ls, K => l.ex fun v => exL ls fun vs => K (v :: vs)
def allL : List Leaf → (List LV → Prop) → Prop
  | [], K => K []
  | l :: ls, K => l.all fun v => allL ls fun vs => K (v :: vs)
theorem exL_of : ∀ {ls : List Leaf} {K : List LV → Prop}, exL ls K → ∃ vs, K vs
  | [], _, h => ⟨_, h⟩
  | _ :: _, _, h => by
    obtain ⟨v, h⟩ := Leaf.ex_of h
    obtain ⟨vs, h⟩ := exL_of h
    exact ⟨_, h⟩

def VT.ex : VT → (TV → Prop) → Prop
  | .l lf, K => lf.ex fun v => K (.l v)
  | .agg ls, K => exL ls fun vs => K (.agg vs)
def VT.all : VT → (TV → Prop) → Prop
  | .l lf, K => lf.all fun v => K (.l v)
  | .agg ls, K => allL ls fun vs => K (.agg vs)
theorem VT.ex_of {t : VT} {K : TV → Prop} (h : t.ex K) : ∃ v, K v := by
  cases t with
  | l lf => obtain ⟨v, h⟩ := Leaf.ex_of (K := fun v => K (.l v)) h; exact ⟨_, h⟩
  | agg ls => obtain ⟨v, h⟩ := exL_of (K := fun v => K (.agg v)) h; exact ⟨_, h⟩
def exT : List VT → (List TV → Prop) → Prop
  | [], K => K []
  | t :: ts, K => t.ex fun v => exT ts fun vs => K (v :: vs)
theorem exT_of : ∀ {ts : List VT} {K : List TV → Prop}, exT ts K → ∃ vs, K vs
  | [], _, h => ⟨_, h⟩
  | _ :: _, _, h => by
    obtain ⟨v, h⟩ := VT.ex_of h
    obtain ⟨vs, h⟩ := exT_of h
    exact ⟨_, h⟩

/-! ### Calls, at the heap -/

def CallsH (P : Program) (f : FuncId) (args : List Value) (h : Heap) (R : Value → Heap → Prop) : Prop :=
  ∀ w : World, w.heap = h → Calls P f ⟨args⟩ w fun e w' => ∃ v, e = .returned v ∧ Same w w' ∧ R v w'.heap

theorem CallsH.mono {P : Program} {f : FuncId} {args : List Value} {h : Heap} {R R' : Value → Heap → Prop} (k : CallsH P f args h R) (hr : ∀ v h', R v h' → R' v h') : CallsH P f args h R' :=
  fun w hw => (k w hw).mono fun _ _ ⟨v, he, hs, hR⟩ => ⟨v, he, hs, hr _ _ hR⟩

/-- What a call hands back, by the kinds of its results. -/
def exR (ts : List VT) (v : Value) (K : SV → Prop) : Prop := match ts with
  | [t] => t.ex fun x => v = x.val ∧ K (.t x)
  | ts => exT ts fun xs => v = .tuple ⟨xs.map TV.val⟩ ∧ K (.tup xs)
theorem exR_of {ts : List VT} {v : Value} {K : SV → Prop} (h : exR ts v K) : ∃ x, v = SV.val x ∧ K x := by
  unfold exR at h
  split at h
  · obtain ⟨x, h1, h2⟩ := VT.ex_of h
    exact ⟨.t x, h1, h2⟩
  · obtain ⟨x, h1, h2⟩ := exT_of h
    exact ⟨.tup x, h1, h2⟩

/-- A function that may be called: it has a body. -/
def Callable (P : Program) (f : FuncId) : Prop := ∃ fn, P.funcs[f]? = some fn ∧ fn.body.isNone = false ∧ (fn.name == "runtime.NumGoroutine") = false

end Go.Proofs.Ytjmhahjmbmiepaa.D
