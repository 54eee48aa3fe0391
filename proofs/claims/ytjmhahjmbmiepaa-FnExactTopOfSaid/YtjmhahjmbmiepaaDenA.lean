/- The heap-level reading of an operation: values, types, runs. Nothing of one program stands here. -/
import Derived.Calls
import Derived.Orders
import Derived.Laws.Entries
namespace Go.Proofs.Ytjmhahjmbmiepaa.D
open Go

abbrev Heap := Array Obj

/-- What a call leaves alone beside the heap (and the count of the draws). -/
def Same (w w' : World) : Prop := w'.os = w.os ∧ w'.tape = w.tape ∧ w'.output = w.output
theorem Same.refl (w : World) : Same w w := ⟨rfl, rfl, rfl⟩
theorem Same.trans {a b c : World} (h : Same a b) (k : Same b c) : Same a c :=
  ⟨k.1.trans h.1, k.2.1.trans h.2.1, k.2.2.trans h.2.2⟩

/-- Block 'b' is the row 'c' of elements of type 'e', none of it frozen. -/
def Row (h : Heap) (b : Nat) (e : TypeId) (c : List Value) : Prop := h[b]? = some (.cells ⟨c⟩ e (0, 0))
def cellAt (h : Heap) (b o : Nat) : Option Value :=
  match h[b]? with
  | some (.cells c _ _) => c[o]?
  | _ => none
def putRow (h : Heap) (b : Nat) (e : TypeId) (c : List Value) : Heap := h.setIfInBounds b (.cells ⟨c⟩ e (0, 0))
def newRowH (h : Heap) (e : TypeId) (c : List Value) : Heap := h.push (.cells ⟨c⟩ e (0, 0))

theorem Row.cell {h : Heap} {b : Nat} {e : TypeId} {c : List Value} (r : Row h b e c) (o : Nat) : cellAt h b o = c[o]? := by
  unfold Row at r; unfold cellAt; rw [r]; simp

theorem cell?_eq (w : World) (b o : Nat) : w.cell? ⟨b, o, none⟩ = cellAt w.heap b o := by
  unfold World.cell? cellAt
  cases h : w.heap[b]? with
  | none => rfl
  | some x => cases x <;> simp

/-! ### Runs that leave all but the heap alone -/

/-- 'x': the world is left as it is, to the count of the draws. -/
def SOk {α : Type} (x : Bool) (P : Program) (s : Sem α) (h : Heap) (K : α → Heap → Prop) : Prop :=
  ∀ w : World, w.heap = h → ∃ v w', s.run P w = .ok v w' ∧ Same w w' ∧ (x = true → w' = w) ∧ K v w'.heap

section
variable {xf : Bool} {P : Program} {h : Heap} {α β : Type}

theorem SOk.pure {a : α} {K : α → Heap → Prop} (k : K a h) : SOk xf P (Pure.pure a : Sem α) h K := by
  intro w hw
  exact ⟨a, w, by simp, Same.refl w, fun _ => rfl, by rw [hw]; exact k⟩
theorem SOk.bind {s : Sem α} {f : α → Sem β} {K : β → Heap → Prop} (k : SOk xf P s h fun a h' => SOk xf P (f a) h' K) : SOk xf P (s >>= f) h K := by
  intro w hw
  obtain ⟨a, w1, h1, s1, x1, k1⟩ := k w hw
  obtain ⟨v, w2, h2, s2, x2, k2⟩ := k1 w1 rfl
  exact ⟨v, w2, by simp [h1, h2], s1.trans s2, fun hx => (x2 hx).trans (x1 hx), k2⟩
theorem SOk.mono {s : Sem α} {K K' : α → Heap → Prop} (k : SOk xf P s h K) (hk : ∀ a h', K a h' → K' a h') : SOk xf P s h K' := by
  intro w hw
  obtain ⟨a, w1, h1, s1, x1, k1⟩ := k w hw
  exact ⟨a, w1, h1, s1, x1, hk _ _ k1⟩
theorem SOk.of_run {s : Sem α} {a : α} {K : α → Heap → Prop} (hr : ∀ w, s.run P w = .ok a w) (k : K a h) : SOk xf P s h K := by
  intro w hw
  exact ⟨a, w, hr w, Same.refl w, fun _ => rfl, by rw [hw]; exact k⟩
end

/-! ### Types -/

inductive Leaf where
  | int (k : IntKind) | bool | str | slice | ptr | func | iface | ptrN
  deriving DecidableEq

def Leaf.zero : Leaf → Value
  | .int k => .int k 0 | .bool => .bool false | .str => .string .empty | .slice => .slice none 0 0 | .ptr => .pointer none | .func => .nilFunc | .iface => .nilIface | .ptrN => .pointer none

inductive TDesc where
  | int (k : IntKind) | bool | str | slice (e : TypeId) | ptr (e : TypeId) | func | iface | struct (fs : List (Nat × TypeId)) | arr (len : Nat) (e : TypeId) | other

def strip : TypeDesc → TDesc
  | .int k => .int k | .bool => .bool | .string => .str | .slice e => .slice e | .pointer e => .ptr e | .func .. => .func | .interface _ => .iface
  | .struct fs => .struct (fs.toList.map fun f => (f.offset, f.type)) | .array n e => .arr n e | _ => .other

/-- A type's row: what it is, the kinds of its cells, its bytes. -/
structure TI where
  desc : TDesc
  leaves : List Leaf
  bytes : Nat

def TI.agg (i : TI) : Bool := match i.desc with | .struct _ | .arr _ _ => true | _ => false
def TI.zero (i : TI) : Value := if i.agg then .agg ⟨i.leaves.map Leaf.zero⟩ else match i.leaves with | [l] => l.zero | _ => .tuple #[]

abbrev Types := List (TypeId × TI)
def look {β : Type} : List (Nat × β) → Nat → Option β
  | [], _ => none
  | (k, v) :: r, s => bif Nat.beq k s then some v else look r s

def Good (P : Program) (e : TypeId × TI) : Prop :=
  (P.info? e.1).map (fun i => (i.zero, i.size, i.bytes)) = some (some e.2.zero, e.2.leaves.length, e.2.bytes) ∧ (P.underlying e.1).map strip = some e.2.desc

theorem look_mem {β : Type} : ∀ {l : List (Nat × β)} {s : Nat} {v : β}, look l s = some v → (s, v) ∈ l
  | (k, u) :: r, s, v, h => by
    unfold look at h
    cases hk : Nat.beq k s with
    | true =>
      rw [hk] at h
      have : k = s := Nat.eq_of_beq_eq_true hk
      subst this
      injection h with h
      subst h
      exact List.mem_cons_self
    | false =>
      rw [hk] at h
      exact List.mem_cons_of_mem _ (look_mem h)

structure TOk (P : Program) (T : Types) : Prop where
  good : ∀ e ∈ T, Good P e

section
variable {xf : Bool} {P : Program} {T : Types} (hT : TOk P T) {t : TypeId} {i : TI} (hi : look T t = some i)
include hT hi
theorem TOk.info : ∃ j, P.info? t = some j ∧ j.zero = some i.zero ∧ j.size = i.leaves.length ∧ j.bytes = i.bytes := by
  have h := (hT.good _ (look_mem hi)).1
  cases hj : P.info? t with
  | none => rw [hj] at h; cases h
  | some j =>
    rw [hj] at h
    simp at h
    exact ⟨j, rfl, h.1, h.2.1, h.2.2⟩
theorem TOk.desc : ∃ d, P.underlying t = some d ∧ strip d = i.desc := by
  have h := (hT.good _ (look_mem hi)).2
  cases hj : P.underlying t with
  | none => rw [hj] at h; cases h
  | some d =>
    rw [hj] at h
    simp at h
    exact ⟨d, rfl, h⟩
theorem TOk.sok_info {h : Heap} {K : TypeInfo → Heap → Prop} (k : ∀ j, j.zero = some i.zero → j.size = i.leaves.length → j.bytes = i.bytes → K j h) : SOk xf P (typeInfo t) h K := by
  obtain ⟨j, hj, h1, h2, h3⟩ := hT.info hi
  exact SOk.of_run (a := j) (fun w => by simp [typeInfo, program, Sem.run, hj]) (k j h1 h2 h3)
theorem TOk.sok_size {h : Heap} {K : Nat → Heap → Prop} (k : K i.leaves.length h) : SOk xf P (sizeOf t) h K := by
  unfold sizeOf
  refine SOk.bind (hT.sok_info hi fun j _ h2 _ => ?_)
  rw [h2]
  exact SOk.pure k
theorem TOk.sok_zero {h : Heap} {K : Value → Heap → Prop} (k : K i.zero h) : SOk xf P (zeroValue t) h K := by
  unfold zeroValue
  refine SOk.bind (hT.sok_info hi fun j h1 _ _ => ?_)
  rw [h1]
  exact SOk.pure k
theorem TOk.sok_under {h : Heap} {K : TypeDesc → Heap → Prop} (k : ∀ d, strip d = i.desc → K d h) : SOk xf P (underlying t) h K := by
  obtain ⟨d, hd, h1⟩ := hT.desc hi
  exact SOk.of_run (a := d) (fun w => by simp [underlying, program, Sem.run, hd]) (k d h1)
end

theorem strip_int {d : TypeDesc} {k : IntKind} (h : strip d = .int k) : d = .int k := by cases d <;> first | (simp [strip] at h; done) | (simp [strip] at h; rw [h])
theorem strip_bool {d : TypeDesc} (h : strip d = .bool) : d = .bool := by cases d <;> simp_all [strip]
theorem strip_str {d : TypeDesc} (h : strip d = .str) : d = .string := by cases d <;> simp_all [strip]
theorem strip_slice {d : TypeDesc} {e : TypeId} (h : strip d = .slice e) : d = .slice e := by cases d <;> simp_all [strip]
theorem strip_ptr {d : TypeDesc} {e : TypeId} (h : strip d = .ptr e) : d = .pointer e := by cases d <;> simp_all [strip]
theorem strip_arr {d : TypeDesc} {n : Nat} {e : TypeId} (h : strip d = .arr n e) : d = .array n e := by cases d <;> simp_all [strip]
theorem strip_struct {d : TypeDesc} {fs : List (Nat × TypeId)} (h : strip d = .struct fs) : ∃ gs, d = .struct gs ∧ gs.toList.map (fun f => (f.offset, f.type)) = fs := by
  cases d <;> simp_all [strip]
theorem TOk.sok_isAgg {xf : Bool} {P : Program} {T : Types} (hT : TOk P T) {t : TypeId} {i : TI} (hi : look T t = some i) {h : Heap} {K : Bool → Heap → Prop} (k : K i.agg h) : SOk xf P (isAgg t) h K := by
  unfold isAgg
  refine SOk.bind (hT.sok_under hi fun d hd => ?_)
  unfold TI.agg at k
  rw [← hd] at k
  cases d <;> exact SOk.pure k

end Go.Proofs.Ytjmhahjmbmiepaa.D
