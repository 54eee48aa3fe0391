/- Words for the heap: what stays, rows, cells. -/
import Derived.Test.YtjmhahjmbmiepaaDenM
namespace Go.Proofs.Ytjmhahjmbmiepaa.D
open Go
set_option linter.unusedVariables false
set_option linter.unusedSimpArgs false

/-- Outside 'S' all that stood stands. -/
def Frm (S : List Nat) (h h' : Heap) : Prop := h.size ≤ h'.size ∧ ∀ b, b < h.size → b ∉ S → h'[b]? = h[b]?
abbrev Ext (h h' : Heap) : Prop := Frm [] h h'

theorem Frm.refl (S : List Nat) (h : Heap) : Frm S h h := ⟨Nat.le_refl _, fun _ _ _ => rfl⟩
theorem Frm.trans {S : List Nat} {a b c : Heap} (h : Frm S a b) (k : Frm S b c) : Frm S a c :=
  ⟨Nat.le_trans h.1 k.1, fun i hi hn => (k.2 i (Nat.lt_of_lt_of_le hi h.1) hn).trans (h.2 i hi hn)⟩
theorem Frm.mono {S S' : List Nat} {a b : Heap} (h : Frm S a b) (hs : ∀ x, x < a.size → x ∈ S → x ∈ S') : Frm S' a b :=
  ⟨h.1, fun i hi hn => h.2 i hi fun hm => hn (hs i hi hm)⟩
theorem Ext.frm {S : List Nat} {a b : Heap} (h : Ext a b) : Frm S a b := h.mono fun _ _ hm => by cases hm
/-- What is written behind the start of 'a' leaves 'a' alone. -/
theorem Frm.comp {S S' : List Nat} {a b c : Heap} (h : Frm S a b) (k : Frm S' b c) (hs : ∀ x ∈ S', a.size ≤ x ∨ x ∈ S) : Frm S a c :=
  ⟨Nat.le_trans h.1 k.1, fun i hi hn => (k.2 i (Nat.lt_of_lt_of_le hi h.1) fun hm => by rcases hs i hm with hh | hh; exact absurd hi (Nat.not_lt.2 hh); exact hn hh).trans (h.2 i hi hn)⟩

theorem size_new (h : Heap) (e : TypeId) (c : List Value) : (newRowH h e c).size = h.size + 1 := by simp [newRowH]
theorem size_put (h : Heap) (b : Nat) (e : TypeId) (c : List Value) : (putRow h b e c).size = h.size := by simp [putRow]
theorem get_new (h : Heap) (e : TypeId) (c : List Value) (b : Nat) : (newRowH h e c)[b]? = if b = h.size then some (.cells ⟨c⟩ e (0, 0)) else h[b]? := by
  unfold newRowH
  rw [Array.getElem?_push]
theorem get_put (h : Heap) (b : Nat) (e : TypeId) (c : List Value) (b' : Nat) : (putRow h b e c)[b']? = if b = b' then (if b' < h.size then some (.cells ⟨c⟩ e (0, 0)) else none) else h[b']? := by
  unfold putRow
  rw [Array.getElem?_setIfInBounds]
  by_cases hb : b = b'
  · subst hb; simp
  · simp [hb]

theorem Frm.new (S : List Nat) (h : Heap) (e : TypeId) (c : List Value) : Frm S h (newRowH h e c) :=
  ⟨by rw [size_new]; omega, fun b hb _ => by rw [get_new, if_neg (by omega)]⟩
theorem Frm.put {S : List Nat} (h : Heap) {b : Nat} (e : TypeId) (c : List Value) (hb : b ∈ S) : Frm S h (putRow h b e c) :=
  ⟨by rw [size_put]; exact Nat.le_refl _, fun b' hb' hn => by
    have hne : ¬ b = b' := fun hh => hn (by rw [← hh]; exact hb)
    rw [get_put, if_neg hne]⟩
/-- A store to a block that 'a' has not. -/
theorem Frm.putNew {S : List Nat} {a h : Heap} (k : Frm S a h) {b : Nat} (e : TypeId) (c : List Value) (hb : a.size ≤ b) : Frm S a (putRow h b e c) :=
  ⟨by rw [size_put]; exact k.1, fun b' hb' hn => by rw [get_put, if_neg (by omega)]; exact k.2 b' hb' hn⟩
theorem Frm.new' {S : List Nat} {a h : Heap} (k : Frm S a h) (e : TypeId) (c : List Value) : Frm S a (newRowH h e c) := k.trans (Frm.new S h e c)

theorem Row.new (h : Heap) (e : TypeId) (c : List Value) : Row (newRowH h e c) h.size e c := by unfold Row; rw [get_new, if_pos rfl]
theorem Row.frm {S : List Nat} {h h' : Heap} {b : Nat} {e : TypeId} {c : List Value} (r : Row h b e c) (k : Frm S h h') (hb : b ∉ S) : Row h' b e c :=
  (k.2 b (row_lt r) hb).trans r
theorem Row.put (h : Heap) {b : Nat} (e : TypeId) (c : List Value) (hb : b < h.size) : Row (putRow h b e c) b e c := row_put hb
theorem Row.inj {h : Heap} {b : Nat} {e e' : TypeId} {c c' : List Value} (r : Row h b e c) (r' : Row h b e' c') : e = e' ∧ c = c' := by
  unfold Row at r r'
  rw [r] at r'
  simp at r'
  exact ⟨r'.2, r'.1⟩

/-! ### Cells of the call's own boxes: by simp -/

theorem cell_new (h : Heap) (e : TypeId) (c : List Value) (b o : Nat) : cellAt (newRowH h e c) b o = if b = h.size then c[o]? else cellAt h b o := by
  unfold cellAt
  rw [get_new]
  by_cases hb : b = h.size <;> simp [hb]
theorem cell_put (h : Heap) (b : Nat) (e : TypeId) (c : List Value) (b' o : Nat) : cellAt (putRow h b e c) b' o = if b = b' then (if b' < h.size then c[o]? else none) else cellAt h b' o := by
  unfold cellAt
  rw [get_put]
  by_cases hb : b = b'
  · by_cases hl : b' < h.size <;> simp [hb, hl]
  · simp [hb]
theorem row_new_iff (h : Heap) (e : TypeId) (c : List Value) (b : Nat) (e' : TypeId) (c' : List Value) : Row (newRowH h e c) b e' c' ↔ if b = h.size then e = e' ∧ c = c' else Row h b e' c' := by
  unfold Row
  rw [get_new]
  by_cases hb : b = h.size
  · simp [hb]; constructor <;> (rintro ⟨rfl, rfl⟩; exact ⟨rfl, rfl⟩)
  · simp [hb]
theorem row_put_iff (h : Heap) (b : Nat) (e : TypeId) (c : List Value) (b' : Nat) (e' : TypeId) (c' : List Value) : Row (putRow h b e c) b' e' c' ↔ if b = b' then b' < h.size ∧ e = e' ∧ c = c' else Row h b' e' c' := by
  unfold Row
  rw [get_put]
  by_cases hb : b = b'
  · by_cases hl : b' < h.size
    · simp [hb, hl]; constructor <;> (rintro ⟨rfl, rfl⟩; exact ⟨rfl, rfl⟩)
    · simp [hb, hl]
  · simp [hb]
theorem cell_frm {S : List Nat} {h h' : Heap} (k : Frm S h h') {b o : Nat} {v : Value} (hc : cellAt h b o = some v) (hb : b ∉ S) : cellAt h' b o = some v := by
  have hlt : b < h.size := by
    unfold cellAt at hc
    rcases Nat.lt_or_ge b h.size with hl | hl
    · exact hl
    · rw [Array.getElem?_eq_none hl] at hc; cases hc
  unfold cellAt at hc ⊢
  rw [k.2 b hlt hb]
  exact hc

theorem wrap64_of {n : Int} (h0 : -9223372036854775808 ≤ n) (h1 : n < 9223372036854775808) : IntKind.i64.wrap n = n := wrap_i64 h0 h1

/-! ### Kinds of data -/

/-- How a datum lies in cells: its cells, the blocks that it holds. -/
structure Kind (α : Type) where
  size : Nat
  tid : TypeId
  rep : Heap → α → List Value → List Nat → Prop
  pos : 0 < size
  len : ∀ {h x c F}, rep h x c F → c.length = size
  frame : ∀ {h h' x c F}, rep h x c F → (∀ b ∈ F, h'[b]? = h[b]?) → rep h' x c F
  lt : ∀ {h x c F}, rep h x c F → ∀ b ∈ F, b < h.size
  one : ∀ {h x c F}, rep h x c F → ∀ v ∈ c, oneV v = true

theorem Kind.frm {α : Type} (k : Kind α) {h h' : Heap} {x : α} {c : List Value} {F S : List Nat} (r : k.rep h x c F) (f : Frm S h h') (hd : ∀ b ∈ F, b ∉ S) : k.rep h' x c F :=
  k.frame r fun b hb => f.2 b (k.lt r b hb) (hd b hb)
theorem Kind.ext {α : Type} (k : Kind α) {h h' : Heap} {x : α} {c : List Value} {F : List Nat} (r : k.rep h x c F) (f : Ext h h') : k.rep h' x c F :=
  k.frm r f fun _ _ h => by cases h

def inI64 (x : Int) : Prop := -9223372036854775808 ≤ x ∧ x < 9223372036854775808
def kInt (t : TypeId) : Kind Int where
  size := 1
  tid := t
  rep := fun _ x c F => c = [.int .i64 x] ∧ F = [] ∧ inI64 x
  pos := by omega
  len := by rintro _ _ _ _ ⟨rfl, _⟩; rfl
  frame := fun r _ => r
  lt := by rintro _ _ _ _ ⟨_, rfl, _⟩ b hb; cases hb
  one := by rintro _ _ _ _ ⟨rfl, _⟩ v hv; simp at hv; subst hv; rfl
def kBool (t : TypeId) : Kind Bool where
  size := 1
  tid := t
  rep := fun _ x c F => c = [.bool x] ∧ F = []
  pos := by omega
  len := by rintro _ _ _ _ ⟨rfl, _⟩; rfl
  frame := fun r _ => r
  lt := by rintro _ _ _ _ ⟨_, rfl⟩ b hb; cases hb
  one := by rintro _ _ _ _ ⟨rfl, _⟩ v hv; simp at hv; subst hv; rfl
def kStr (t : TypeId) : Kind ByteArray where
  size := 1
  tid := t
  rep := fun _ x c F => c = [.string x] ∧ F = []
  pos := by omega
  len := by rintro _ _ _ _ ⟨rfl, _⟩; rfl
  frame := fun r _ => r
  lt := by rintro _ _ _ _ ⟨_, rfl⟩ b hb; cases hb
  one := by rintro _ _ _ _ ⟨rfl, _⟩ v hv; simp at hv; subst hv; rfl
def kPair {α β : Type} (t : TypeId) (k : Kind α) (l : Kind β) : Kind (α × β) where
  size := k.size + l.size
  tid := t
  rep := fun h x c F => ∃ c1 c2 F1 F2, c = c1 ++ c2 ∧ F = F1 ++ F2 ∧ k.rep h x.1 c1 F1 ∧ l.rep h x.2 c2 F2
  pos := by have := k.pos; omega
  len := by rintro _ _ _ _ ⟨c1, c2, F1, F2, rfl, rfl, r1, r2⟩; rw [List.length_append, k.len r1, l.len r2]
  frame := by
    rintro _ _ _ _ _ ⟨c1, c2, F1, F2, rfl, rfl, r1, r2⟩ hf
    exact ⟨c1, c2, F1, F2, rfl, rfl, k.frame r1 fun b hb => hf b (List.mem_append_left _ hb), l.frame r2 fun b hb => hf b (List.mem_append_right _ hb)⟩
  lt := by
    rintro _ _ _ _ ⟨c1, c2, F1, F2, rfl, rfl, r1, r2⟩ b hb
    rcases List.mem_append.1 hb with hb | hb
    · exact k.lt r1 b hb
    · exact l.lt r2 b hb
  one := by
    rintro _ _ _ _ ⟨c1, c2, F1, F2, rfl, rfl, r1, r2⟩ b hb
    rcases List.mem_append.1 hb with hb | hb
    · exact k.one r1 b hb
    · exact l.one r2 b hb
/-- The same cells, read as another type. -/
def kIso {α β : Type} (t : TypeId) (k : Kind α) (f : β → α) : Kind β where
  size := k.size
  tid := t
  rep := fun h x c F => k.rep h (f x) c F
  pos := k.pos
  len := fun r => k.len r
  frame := fun r hf => k.frame r hf
  lt := fun r => k.lt r
  one := fun r => k.one r

/-- Elements one behind the other. -/
def Els {α : Type} (k : Kind α) (h : Heap) : List α → List Value → List Nat → Prop
  | [], c, F => c = [] ∧ F = []
  | x :: xs, c, F => ∃ c1 c2 F1 F2, c = c1 ++ c2 ∧ F = F1 ++ F2 ∧ k.rep h x c1 F1 ∧ Els k h xs c2 F2

section
variable {α : Type} {k : Kind α}
theorem Els.len {h : Heap} : ∀ {xs : List α} {c : List Value} {F : List Nat}, Els k h xs c F → c.length = xs.length * k.size
  | [], _, _, ⟨rfl, _⟩ => by simp
  | x :: xs, _, _, ⟨c1, c2, F1, F2, rfl, rfl, r, rs⟩ => by rw [List.length_append, k.len r, rs.len, List.length_cons, Nat.succ_mul, Nat.add_comm]
theorem Els.frame {h h' : Heap} : ∀ {xs : List α} {c : List Value} {F : List Nat}, Els k h xs c F → (∀ b ∈ F, h'[b]? = h[b]?) → Els k h' xs c F
  | [], _, _, e, _ => e
  | x :: xs, _, _, ⟨c1, c2, F1, F2, rfl, rfl, r, rs⟩, hf =>
    ⟨c1, c2, F1, F2, rfl, rfl, k.frame r fun b hb => hf b (List.mem_append_left _ hb), rs.frame fun b hb => hf b (List.mem_append_right _ hb)⟩
theorem Els.lt {h : Heap} : ∀ {xs : List α} {c : List Value} {F : List Nat}, Els k h xs c F → ∀ b ∈ F, b < h.size
  | [], _, _, ⟨_, rfl⟩, b, hb => by cases hb
  | x :: xs, _, _, ⟨c1, c2, F1, F2, rfl, rfl, r, rs⟩, b, hb => by
    rcases List.mem_append.1 hb with hb | hb
    · exact k.lt r b hb
    · exact rs.lt b hb
theorem Els.one {h : Heap} : ∀ {xs : List α} {c : List Value} {F : List Nat}, Els k h xs c F → ∀ v ∈ c, oneV v = true
  | [], _, _, ⟨rfl, _⟩, b, hb => by cases hb
  | x :: xs, _, _, ⟨c1, c2, F1, F2, rfl, rfl, r, rs⟩, b, hb => by
    rcases List.mem_append.1 hb with hb | hb
    · exact k.one r b hb
    · exact rs.one b hb
theorem Els.append {h : Heap} : ∀ {xs ys : List α} {c d : List Value} {F G : List Nat}, Els k h xs c F → Els k h ys d G → Els k h (xs ++ ys) (c ++ d) (F ++ G)
  | [], _, _, _, _, _, ⟨rfl, rfl⟩, s => s
  | x :: xs, _, _, _, _, _, ⟨c1, c2, F1, F2, rfl, rfl, r, rs⟩, s =>
    ⟨c1, c2 ++ _, F1, F2 ++ _, by simp, by simp, r, rs.append s⟩
theorem Els.single {h : Heap} {x : α} {c : List Value} {F : List Nat} (r : k.rep h x c F) : Els k h [x] c F :=
  ⟨c, [], F, [], by simp, by simp, r, rfl, rfl⟩
/-- The i-th element, what stands before it and behind it. -/
theorem Els.at {h : Heap} : ∀ {xs : List α} {c : List Value} {F : List Nat} {i : Nat}, Els k h xs c F → (hi : i < xs.length) →
    ∃ c1 ci c2 F1 Fi F2, c = c1 ++ ci ++ c2 ∧ F = F1 ++ Fi ++ F2 ∧ c1.length = i * k.size ∧ Els k h (xs.take i) c1 F1 ∧ k.rep h xs[i] ci Fi ∧ Els k h (xs.drop (i + 1)) c2 F2
  | [], _, _, _, _, hi => by simp at hi
  | x :: xs, _, _, 0, ⟨c1, c2, F1, F2, rfl, rfl, r, rs⟩, _ =>
    ⟨[], c1, c2, [], F1, F2, by simp, by simp, by simp, ⟨rfl, rfl⟩, r, by simpa using rs⟩
  | x :: xs, _, _, i + 1, ⟨c1, c2, F1, F2, rfl, rfl, r, rs⟩, hi => by
    obtain ⟨d1, di, d2, G1, Gi, G2, rfl, rfl, hl, e1, e2, e3⟩ := rs.at (i := i) (by simpa using hi)
    refine ⟨c1 ++ d1, di, d2, F1 ++ G1, Gi, G2, by simp, by simp, ?_, ⟨c1, d1, F1, G1, rfl, rfl, r, e1⟩, by simpa using e2, by simpa using e3⟩
    rw [List.length_append, k.len r, hl, Nat.succ_mul, Nat.add_comm]
end

/-- A slice that holds 'xs'. -/
def Sl {α : Type} (k : Kind α) (h : Heap) (xs : List α) (a : Option Addr) (n c : Nat) (F : List Nat) : Prop :=
  n = xs.length ∧ (n ≤ c ∧ n < 281474976710656) ∧ ((a = none ∧ c = 0 ∧ F = []) ∨
    ∃ b pre cs post G, a = some ⟨b, pre.length, none⟩ ∧ Row h b k.tid (pre ++ cs ++ post) ∧ (c - n) * k.size ≤ post.length ∧ Els k h xs cs G ∧ F = b :: G)

def kSl {α : Type} (t : TypeId) (k : Kind α) : Kind (List α) where
  size := 1
  tid := t
  rep := fun h xs c F => ∃ a n cap, c = [.slice a n cap] ∧ Sl k h xs a n cap F
  pos := by omega
  len := by rintro _ _ _ _ ⟨a, n, cap, rfl, _⟩; rfl
  frame := by
    rintro h h' xs c F ⟨a, n, cap, rfl, hn, hc, hs⟩ hf
    refine ⟨a, n, cap, rfl, hn, hc, ?_⟩
    rcases hs with hs | ⟨b, pre, cs, post, G, rfl, r, hp, e, rfl⟩
    · exact .inl hs
    · exact .inr ⟨b, pre, cs, post, G, rfl, (hf b (by simp)).trans r, hp, e.frame fun b hb => hf b (by simp [hb]), rfl⟩
  lt := by
    rintro h xs c F ⟨a, n, cap, rfl, hn, hc, hs⟩ x hx
    rcases hs with ⟨_, _, rfl⟩ | ⟨b, pre, cs, post, G, rfl, r, hp, e, rfl⟩
    · cases hx
    · rcases List.mem_cons.1 hx with rfl | hx
      · exact row_lt r
      · exact e.lt x hx
  one := by rintro _ _ _ _ ⟨a, n, cap, rfl, _⟩ v hv; simp at hv; subst hv; rfl

section
variable {α : Type} {k : Kind α} {h h' : Heap} {xs : List α} {a : Option Addr} {n c : Nat} {F S : List Nat}
theorem Sl.rep (t : TypeId) (s : Sl k h xs a n c F) : (kSl t k).rep h xs [.slice a n c] F := ⟨a, n, c, rfl, s⟩
theorem Sl.frm (s : Sl k h xs a n c F) (f : Frm S h h') (hd : ∀ b ∈ F, b ∉ S) : Sl k h' xs a n c F := by
  obtain ⟨a', n', c', he, s'⟩ := (kSl 0 k).frm (s.rep 0) f hd
  simp at he
  obtain ⟨rfl, rfl, rfl⟩ := he
  exact s'
theorem Sl.ext (s : Sl k h xs a n c F) (f : Ext h h') : Sl k h' xs a n c F := s.frm f fun _ _ h => by cases h
theorem Sl.lt (s : Sl k h xs a n c F) : ∀ b ∈ F, b < h.size := (kSl 0 k).lt (s.rep 0)
theorem Sl.nil (k : Kind α) (h : Heap) : Sl k h [] none 0 0 [] := ⟨rfl, by omega, .inl ⟨rfl, rfl, rfl⟩⟩
/-- The i-th element of a slice. -/
theorem Sl.at (s : Sl k h xs a n c F) {i : Nat} (hi : i < xs.length) : ∃ b o ci Fi, a = some ⟨b, o, none⟩ ∧ b ∈ F ∧ k.rep h xs[i] ci Fi ∧ (∀ x ∈ Fi, x ∈ F) ∧
    (∀ j v, ci[j]? = some v → cellAt h b (o + (i * k.size + j)) = some v) := by
  obtain ⟨hn, hc, hs⟩ := s
  rcases hs with ⟨rfl, rfl, rfl⟩ | ⟨b, pre, cs, post, G, rfl, r, hp, e, rfl⟩
  · omega
  · obtain ⟨c1, ci, c2, F1, Fi, F2, rfl, rfl, hl, _, e2, _⟩ := e.at hi
    refine ⟨b, pre.length, ci, Fi, rfl, by simp, e2, fun x hx => by simp [hx], fun j v hj => ?_⟩
    rw [r.cell]
    have hj' : j < ci.length := by
      rcases Nat.lt_or_ge j ci.length with hh | hh
      · exact hh
      · rw [List.getElem?_eq_none hh] at hj; cases hj
    have e1 : pre ++ (c1 ++ ci ++ c2) ++ post = (pre ++ c1) ++ (ci ++ (c2 ++ post)) := by simp
    rw [e1, List.getElem?_append_right (by simp; omega)]
    rw [show pre.length + (i * k.size + j) - (pre ++ c1).length = j from by simp; omega]
    rw [List.getElem?_append_left hj']
    exact hj
end
end Go.Proofs.Ytjmhahjmbmiepaa.D

namespace Go.Proofs.Ytjmhahjmbmiepaa.D
open Go
set_option linter.unusedVariables false
set_option linter.unusedSimpArgs false

section
variable {α : Type} {k : Kind α} {h h' : Heap} {xs : List α} {a : Option Addr} {n c : Nat} {F S : List Nat}

theorem els_set {c1 c2 ci' : List Value} {F1 F2 Fi' : List Nat} {i : Nat} {y : α} (hi : i < xs.length) (e1 : Els k h' (xs.take i) c1 F1) (e2 : k.rep h' y ci' Fi') (e3 : Els k h' (xs.drop (i + 1)) c2 F2) :
    Els k h' (xs.set i y) (c1 ++ ci' ++ c2) (F1 ++ Fi' ++ F2) := by
  have e : xs.set i y = xs.take i ++ ([y] ++ xs.drop (i + 1)) := by
    rw [List.set_eq_take_append_cons_drop, if_pos hi]; rfl
  rw [e, List.append_assoc, List.append_assoc]
  exact e1.append ((Els.single e2).append e3)

/-- One cell of the i-th element is written. -/
theorem Sl.setCell (s : Sl k h xs a n c F) (hF : F.Nodup) {i j : Nat} (hi : i < xs.length) (hj : j < k.size) :
    ∃ b o row ci Fi, a = some ⟨b, o, none⟩ ∧ b ∈ F ∧ Row h b k.tid row ∧ o + (i * k.size + j) < row.length ∧ k.rep h xs[i] ci Fi ∧ (∀ x ∈ Fi, x ∈ F ∧ x ≠ b) ∧
      (∀ j v, ci[j]? = some v → row[o + (i * k.size + j)]? = some v) ∧
      ∀ v y, k.rep h y (ci.set j v) Fi → Sl k (putRow h b k.tid (row.set (o + (i * k.size + j)) v)) (xs.set i y) a n c F := by
  obtain ⟨hn, hc, hs⟩ := s
  rcases hs with ⟨rfl, rfl, rfl⟩ | ⟨b, pre, cs, post, G, rfl, r, hp, e, rfl⟩
  · omega
  · obtain ⟨c1, ci, c2, F1, Fi, F2, rfl, rfl, hl, e1, e2, e3⟩ := e.at hi
    have hci := k.len e2
    have hbn : b ∉ F1 ++ Fi ++ F2 := (List.nodup_cons.1 hF).1
    have e0 : pre ++ (c1 ++ ci ++ c2) ++ post = (pre ++ c1) ++ (ci ++ (c2 ++ post)) := by simp
    refine ⟨b, pre.length, _, ci, Fi, rfl, by simp, r, by simp; omega, e2, fun x hx => ⟨by simp [hx], fun hh => hbn (by subst hh; simp [hx])⟩, ?_, ?_⟩
    · intro j v hj
      have hj' : j < ci.length := by
        rcases Nat.lt_or_ge j ci.length with hh | hh
        · exact hh
        · rw [List.getElem?_eq_none hh] at hj; cases hj
      rw [e0, List.getElem?_append_right (by simp; omega)]
      rw [show pre.length + (i * k.size + j) - (pre ++ c1).length = j from by simp; omega]
      rw [List.getElem?_append_left hj']
      exact hj
    · intro v y ry
      refine ⟨by simpa using hn, hc, .inr ⟨b, pre, c1 ++ ci.set j v ++ c2, post, F1 ++ Fi ++ F2, rfl, ?_, hp, ?_, rfl⟩⟩
      · have hset : (pre ++ (c1 ++ ci ++ c2) ++ post).set (pre.length + (i * k.size + j)) v = pre ++ (c1 ++ ci.set j v ++ c2) ++ post := by
          rw [e0, List.set_append_right _ _ (by simp; omega)]
          rw [show pre.length + (i * k.size + j) - (pre ++ c1).length = j from by simp; omega]
          rw [List.set_append_left _ _ (by omega)]
          simp
        rw [hset]
        exact Row.put h _ _ (row_lt r)
      · have fr : ∀ b' ∈ F1 ++ Fi ++ F2, (putRow h b k.tid ((pre ++ (c1 ++ ci ++ c2) ++ post).set (pre.length + (i * k.size + j)) v))[b']? = h[b']? := by
          intro b' hb'
          rw [get_put, if_neg]
          rintro rfl
          exact hbn hb'
        exact els_set hi (e1.frame fun b hb => fr b (by simp [hb])) (k.frame ry fun b hb => fr b (by simp [hb])) (e3.frame fun b hb => fr b (by simp [hb]))

/-- The header of an element is replaced: what the element held has turned into something of its own. -/
theorem Sl.replace {β : Type} {t : TypeId} {l : Kind β} {ys : List (List β)} (s : Sl (kSl t l) h ys a n c F) (hF : F.Nodup) {i : Nat} (hi : i < ys.length) :
    ∃ b o row ai ni ci Fi, a = some ⟨b, o, none⟩ ∧ b ∈ F ∧ Row h b t row ∧ o + i < row.length ∧ row[o + i]? = some (.slice ai ni ci) ∧ Sl l h ys[i] ai ni ci Fi ∧ (∀ x ∈ Fi, x ∈ F ∧ x ≠ b) ∧ Fi.Nodup ∧
      ∀ h1 zs a' n' c' Fi', Frm Fi h h1 → Sl l h1 zs a' n' c' Fi' → Fi'.Nodup → (∀ x ∈ Fi', x ∈ Fi ∨ h.size ≤ x) →
        Row h1 b t row ∧ ∃ F', F'.Nodup ∧ (∀ x ∈ F', x ∈ F ∨ h.size ≤ x) ∧ Sl (kSl t l) (putRow h1 b t (row.set (o + i) (.slice a' n' c'))) (ys.set i zs) a n c F' := by
  obtain ⟨hn, hc, hs⟩ := s
  rcases hs with ⟨rfl, rfl, rfl⟩ | ⟨b, pre, cs, post, G, rfl, r, hp, e, rfl⟩
  · omega
  · obtain ⟨c1, ci, c2, F1, Fi, F2, rfl, rfl, hl, e1, ⟨ai, ni, cpi, rfl, si⟩, e3⟩ := e.at hi
    have hl1 : c1.length = i := by rw [hl]; exact Nat.mul_one i
    obtain ⟨hbn, hG⟩ := List.nodup_cons.1 hF
    have e0 : pre ++ (c1 ++ [Value.slice ai ni cpi] ++ c2) ++ post = (pre ++ c1) ++ ([Value.slice ai ni cpi] ++ (c2 ++ post)) := by simp
    have hnd := List.nodup_append.1 hG
    have hnd1 := List.nodup_append.1 hnd.1
    refine ⟨b, pre.length, _, ai, ni, cpi, Fi, rfl, by simp, r, by simp; omega, ?_, si, fun x hx => ⟨by simp [hx], fun hh => hbn (by subst hh; simp [hx])⟩, hnd1.2.1, ?_⟩
    · rw [e0, List.getElem?_append_right (by simp; omega)]
      rw [show pre.length + i - (pre ++ c1).length = 0 from by simp; omega]
      rfl
    · intro h1 zs a' n' c' Fi' f s' hN hnew
      have hb1 : Row h1 b t (pre ++ (c1 ++ [Value.slice ai ni cpi] ++ c2) ++ post) := r.frm f fun hm => hbn (by simp [hm])
      have hlt : ∀ x ∈ F1 ++ Fi ++ F2, x < h.size := e.lt
      have hbl : b < h.size := row_lt r
      refine ⟨hb1, b :: (F1 ++ Fi' ++ F2), ?_, ?_, by simpa using hn, hc, .inr ⟨b, pre, c1 ++ [.slice a' n' c'] ++ c2, post, F1 ++ Fi' ++ F2, rfl, ?_, hp, ?_, rfl⟩⟩
      · have key : ∀ x ∈ Fi', x ∉ F1 ∧ x ∉ F2 ∧ x ≠ b := by
          intro x hx
          rcases hnew x hx with hm | hm
          · refine ⟨fun hh => hnd1.2.2 x hh x hm rfl, fun hh => hnd.2.2 x (by simp [hm]) x hh rfl, fun hh => hbn (by subst hh; simp [hm])⟩
          · exact ⟨fun hh => by have := hlt x (by simp [hh]); omega, fun hh => by have := hlt x (by simp [hh]); omega, by omega⟩
        refine List.nodup_cons.2 ⟨?_, ?_⟩
        · intro hm
          rcases List.mem_append.1 hm with hm | hm
          · rcases List.mem_append.1 hm with hm | hm
            · exact hbn (by simp [hm])
            · exact (key b hm).2.2 rfl
          · exact hbn (by simp [hm])
        · refine List.nodup_append.2 ⟨List.nodup_append.2 ⟨hnd1.1, hN, ?_⟩, hnd.2.1, ?_⟩
          · rintro x hx y hy rfl; exact (key x hy).1 hx
          · rintro x hx y hy rfl
            rcases List.mem_append.1 hx with hx | hx
            · exact hnd.2.2 x (by simp [hx]) x hy rfl
            · exact (key x hx).2.1 hy
      · intro x hx
        rcases List.mem_cons.1 hx with rfl | hx
        · exact .inl (by simp)
        · rcases List.mem_append.1 hx with hx | hx
          · rcases List.mem_append.1 hx with hx | hx
            · exact .inl (by simp [hx])
            · rcases hnew x hx with hm | hm
              · exact .inl (by simp [hm])
              · exact .inr hm
          · exact .inl (by simp [hx])
      · have hset : (pre ++ (c1 ++ [Value.slice ai ni cpi] ++ c2) ++ post).set (pre.length + i) (.slice a' n' c') = pre ++ (c1 ++ [.slice a' n' c'] ++ c2) ++ post := by
          rw [e0, List.set_append_right _ _ (by simp; omega)]
          rw [show pre.length + i - (pre ++ c1).length = 0 from by simp; omega]
          simp
        rw [hset]
        exact Row.put h1 _ _ (row_lt hb1)
      · have fr1 : ∀ b' ∈ F1 ++ F2, (putRow h1 b t ((pre ++ (c1 ++ [Value.slice ai ni cpi] ++ c2) ++ post).set (pre.length + i) (.slice a' n' c')))[b']? = h[b']? := by
          intro b' hb'
          have hm : b' ∈ F1 ++ Fi ++ F2 := by
            rcases List.mem_append.1 hb' with hb' | hb' <;> simp [hb']
          have hne : ¬ b = b' := by rintro rfl; exact hbn hm
          rw [get_put, if_neg hne]
          refine f.2 b' (hlt b' hm) fun hx => ?_
          rcases List.mem_append.1 hb' with hb' | hb'
          · exact hnd1.2.2 b' hb' b' hx rfl
          · exact hnd.2.2 b' (by simp [hx]) b' hb' rfl
        have fr2 : ∀ b' ∈ Fi', (putRow h1 b t ((pre ++ (c1 ++ [Value.slice ai ni cpi] ++ c2) ++ post).set (pre.length + i) (.slice a' n' c')))[b']? = h1[b']? := by
          intro b' hb'
          rw [get_put, if_neg]
          rintro rfl
          rcases hnew b hb' with hm | hm
          · exact hbn (by simp [hm])
          · omega
        refine els_set hi (e1.frame fun b hb => fr1 b (by simp [hb])) ?_ (e3.frame fun b hb => fr1 b (by simp [hb]))
        exact (kSl t l).frame (s'.rep t) fr2

/-- A row of the call's own making. -/
theorem Sl.made (k : Kind α) (h : Heap) {xs : List α} {cs : List Value} {post : List Value} {c : Nat} {G : List Nat} (e : Els k h xs cs G) (hp : (c - xs.length) * k.size ≤ post.length) (hc : xs.length ≤ c) (hb : xs.length < 281474976710656) :
    Sl k (newRowH h k.tid (cs ++ post)) xs (some ⟨h.size, 0, none⟩) xs.length c (h.size :: G) := by
  refine ⟨rfl, ⟨hc, hb⟩, .inr ⟨h.size, [], cs, post, G, rfl, by simpa using Row.new h k.tid (cs ++ post), hp, ?_, rfl⟩⟩
  exact e.frame fun b hb => by rw [get_new, if_neg]; have := e.lt b hb; omega

theorem repl_length (zs : List Value) (m : Nat) : (repl zs m).length = m * zs.length := by
  rw [repl_eq]; simp
theorem mem_repl {zs : List Value} {m : Nat} {v : Value} (h : v ∈ repl zs m) : v ∈ zs := by
  rw [repl_eq] at h
  simp at h
  obtain ⟨l, ⟨_, rfl⟩, hv⟩ := h
  exact hv

theorem splice_mid {pre cs post news : List Value} (hl : news.length ≤ post.length) : splice (pre ++ cs ++ post) (pre.length + cs.length) news = pre ++ (cs ++ news) ++ post.drop news.length := by
  unfold splice
  have h1 : (pre ++ cs ++ post).take (pre.length + cs.length) = pre ++ cs := by
    rw [List.take_append_of_le_length (by simp), List.take_of_length_le (by simp)]
  have h2 : (pre ++ cs ++ post).drop (pre.length + cs.length + news.length) = post.drop news.length := by
    rw [List.drop_append]
    simp
  rw [h1, h2]
  simp

/-- 'append' onto a slice that is owned whole. -/
theorem Sl.append (s : Sl k h xs a n c F) (hF : F.Nodup) {ys : List α} {news : List Value} {G : List Nat} {a2 : Option Addr} {m : Nat} {zs : List Value} {K : Option Addr → Nat → Nat → Heap → Prop}
    (hm : m = ys.length) (hmax : n + m ≤ 1073741824) (ha2 : a2 = none → m = 0) (hc2 : CellsAt h a2 news (m * k.size)) (e : Els k h ys news G) (hG : G.Nodup) (hFG : ∀ x ∈ F, x ∉ G) (hz : zs.length = k.size)
    (hk : ∀ a' c' h' F', Frm F h h' → Sl k h' (xs ++ ys) a' (n + m) c' F' → F'.Nodup → (∀ x ∈ F', x ∈ F ∨ x ∈ G ∨ h.size ≤ x) → K a' (n + m) c' h') :
    appendH h k.tid k.size zs a n c a2 m K := by
  obtain ⟨hn, hc, hs⟩ := s
  refine ⟨hmax, ha2, fun ha => ?_, news, hc2, e.one, fun hle => ?_, fun hlt => ?_⟩
  · rcases hs with ⟨_, rfl, _⟩ | ⟨b, pre, cs, post, G0, hb, _⟩
    · omega
    · rw [ha] at hb; cases hb
  · rcases hs with ⟨rfl, rfl, rfl⟩ | ⟨b, pre, cs, post, G0, rfl, r, hp, e0, rfl⟩
    · have h0 : xs = [] := List.eq_nil_of_length_eq_zero (by omega)
      have h1 : ys = [] := List.eq_nil_of_length_eq_zero (by omega)
      subst h0 h1
      refine hk none 0 h [] (Frm.refl _ _) ⟨by simp; omega, by omega, .inl ⟨rfl, rfl, rfl⟩⟩ List.nodup_nil (fun x hx => by cases hx)
    · refine ⟨rfl, ?_⟩
      have hl := e.len
      have hl0 := e0.len
      obtain ⟨hbn, hG0⟩ := List.nodup_cons.1 hF
      have hpost : news.length ≤ post.length := by
        rw [hl]
        refine Nat.le_trans ?_ hp
        exact Nat.mul_le_mul_right _ (by omega)
      have hoff : pre.length + n * k.size = pre.length + cs.length := by rw [hl0, hn]
      have done : Sl k (putRow h b k.tid (pre ++ (cs ++ news) ++ post.drop news.length)) (xs ++ ys) (some ⟨b, pre.length, none⟩) (n + m) c (b :: (G0 ++ G)) := by
        refine ⟨by simp; omega, by omega, .inr ⟨b, pre, cs ++ news, post.drop news.length, G0 ++ G, rfl, Row.put h _ _ (row_lt r), ?_, ?_, rfl⟩⟩
        · rw [List.length_drop, hl, ← hm]
          have : (c - (n + m)) * k.size = (c - n) * k.size - m * k.size := by rw [← Nat.sub_mul]; congr 1; omega
          omega
        · refine (e0.frame fun x hx => ?_).append (e.frame fun x hx => ?_)
          · rw [get_put, if_neg]; rintro rfl; exact hbn hx
          · rw [get_put, if_neg]; rintro rfl; exact hFG b (by simp) hx
      have nd : (b :: (G0 ++ G)).Nodup := by
        refine List.nodup_cons.2 ⟨fun hx => ?_, List.nodup_append.2 ⟨hG0, hG, ?_⟩⟩
        · rcases List.mem_append.1 hx with hx | hx
          · exact hbn hx
          · exact hFG b (by simp) hx
        · rintro x hx y hy rfl; exact hFG x (by simp [hx]) hy
      have mem : ∀ x ∈ b :: (G0 ++ G), x ∈ b :: G0 ∨ x ∈ G ∨ h.size ≤ x := by
        intro x hx
        rcases List.mem_cons.1 hx with rfl | hx
        · exact .inl (by simp)
        · rcases List.mem_append.1 hx with hx | hx
          · exact .inl (by simp [hx])
          · exact .inr (.inl hx)
      have hrow : pre.length + n * k.size + news.length ≤ (pre ++ cs ++ post).length := by simp; omega
      unfold wrH
      split
      · refine hk _ _ _ (b :: (G0 ++ G)) (Frm.refl _ _) ?_ nd mem
        have e2 : putRow h b k.tid (pre ++ (cs ++ []) ++ post.drop ([] : List Value).length) = h := by
          simp only [List.append_nil, List.length_nil, List.drop_zero]
          unfold putRow; unfold Row at r
          apply Array.ext
          · simp
          · intro j h1 h2
            rw [Array.getElem_setIfInBounds]
            split
            · rename_i hbj; subst hbj
              rw [Array.getElem?_eq_getElem h2] at r; injection r with r; exact r.symm
            · rfl
        rw [e2] at done
        exact done
      · refine ⟨k.tid, _, r, by simp at hrow ⊢; omega, ?_⟩
        rw [set_eq_splice (by simp at hrow ⊢; omega), hoff, splice_mid hpost]
        exact hk _ _ _ (b :: (G0 ++ G)) (Frm.put h _ _ (by simp)) done nd mem
      · refine ⟨k.tid, _, r, hrow, ?_⟩
        rw [hoff, splice_mid hpost]
        exact hk _ _ _ (b :: (G0 ++ G)) (Frm.put h _ _ (by simp)) done nd mem
  · have old : ∃ cs G0, Els k h xs cs G0 ∧ CellsAt h a cs (n * k.size) ∧ G0.Nodup ∧ (∀ x ∈ G0, x ∈ F) := by
      rcases hs with ⟨rfl, rfl, rfl⟩ | ⟨b, pre, cs, post, G0, rfl, r, hp, e0, rfl⟩
      · have h0 : xs = [] := List.eq_nil_of_length_eq_zero (by omega)
        subst h0
        exact ⟨[], [], ⟨rfl, rfl⟩, ⟨by simp at hn; simp [hn], trivial⟩, List.nodup_nil, fun x hx => by cases hx⟩
      · refine ⟨cs, G0, e0, ⟨by rw [e0.len, hn], rfl, fun j v hj => ?_⟩, (List.nodup_cons.1 hF).2, fun x hx => by simp [hx]⟩
        have hj' : j < cs.length := by
          rcases Nat.lt_or_ge j cs.length with hh | hh
          · exact hh
          · rw [List.getElem?_eq_none hh] at hj; cases hj
        rw [r.cell, List.append_assoc]
        show (pre ++ (cs ++ post))[pre.length + j]? = _
        rw [List.getElem?_append_right (by omega)]
        rw [show pre.length + j - pre.length = j from by omega, List.getElem?_append_left hj']
        exact hj
    obtain ⟨cs, G0, e0, hcs, hG0, hsub⟩ := old
    refine ⟨cs, hcs, fun nc hnc => ?_⟩
    have e1 := e0.append e
    have hlen : (xs ++ ys).length = n + m := by simp; omega
    have := Sl.made k h (c := nc) (post := repl zs (nc - (n + m))) e1 (by rw [repl_length, hz, hlen]; exact Nat.le_refl _) (by rw [hlen]; exact hnc) (by omega)
    rw [hlen] at this
    refine hk _ _ _ (h.size :: (G0 ++ G)) (Frm.new _ _ _ _) this ?_ ?_
    · refine List.nodup_cons.2 ⟨fun hx => ?_, List.nodup_append.2 ⟨hG0, hG, ?_⟩⟩
      · have := e1.lt _ hx; omega
      · rintro x hx y hy rfl; exact hFG x (hsub x hx) hy
    · intro x hx
      rcases List.mem_cons.1 hx with rfl | hx
      · exact .inr (.inr (Nat.le_refl _))
      · rcases List.mem_append.1 hx with hx | hx
        · exact .inl (hsub x hx)
        · exact .inr (.inl hx)
end
end Go.Proofs.Ytjmhahjmbmiepaa.D

namespace Go.Proofs.Ytjmhahjmbmiepaa.D
open Go
set_option linter.unusedVariables false
set_option linter.unusedSimpArgs false

def ivOf (vs : List Value) (j : Nat) : Int := match vs[j]? with
  | some (.int _ n) => n
  | _ => 0
theorem wrap_succ {i : Nat} (h : i < 4611686018427387904) : IntKind.i64.wrap ((i : Int) + 1) = ((i + 1 : Nat) : Int) := by
  rw [wrap64_of (by omega) (by omega)]; omega

/-- 'for i := 0; i < n; i++' -/
def UpI (n : Nat) (J : Nat → Heap → Prop) : List Value → Heap → Prop := fun vs g => ∃ i : Nat, i ≤ n ∧ vs = [.int .i64 (i : Int)] ∧ J i g
def UpM (n : Nat) : List Value → Heap → Nat := fun vs _ => n - (ivOf vs 0).toNat
theorem UpI.start {n : Nat} {J : Nat → Heap → Prop} {h : Heap} (j : J 0 h) : UpI n J [.int .i64 0] h := ⟨0, by omega, rfl, j⟩
theorem UpI.elim {n : Nat} {J : Nat → Heap → Prop} {h : Heap} {x : Int} (u : UpI n J [.int .i64 x] h) : ∃ i : Nat, i ≤ n ∧ x = i ∧ J i h := by
  obtain ⟨i, hi, hv, j⟩ := u
  simp at hv
  exact ⟨i, hi, hv, j⟩
theorem UpI.next {n : Nat} {J : Nat → Heap → Prop} {g g' : Heap} {i : Nat} (hn : n < 281474976710656) (hi : i < n) (j : J (i + 1) g) :
    UpI n J [.int .i64 (IntKind.i64.wrap ((i : Int) + 1))] g ∧ UpM n [.int .i64 (IntKind.i64.wrap ((i : Int) + 1))] g < UpM n [.int .i64 (i : Int)] g' := by
  rw [wrap_succ (by omega)]
  refine ⟨⟨i + 1, by omega, rfl, j⟩, ?_⟩
  simp [UpM, ivOf]; omega
/-- The same with a number that goes along. -/
def UpK (n : Nat) (J : Nat → Int → Heap → Prop) : List Value → Heap → Prop := fun vs g => ∃ (i : Nat) (k : Int), i ≤ n ∧ vs = [.int .i64 k, .int .i64 (i : Int)] ∧ J i k g
def UpKM (n : Nat) : List Value → Heap → Nat := fun vs _ => n - (ivOf vs 1).toNat
theorem UpK.start {n : Nat} {J : Nat → Int → Heap → Prop} {h : Heap} {k : Int} (j : J 0 k h) : UpK n J [.int .i64 k, .int .i64 0] h := ⟨0, k, by omega, rfl, j⟩
theorem UpK.elim {n : Nat} {J : Nat → Int → Heap → Prop} {h : Heap} {k x : Int} (u : UpK n J [.int .i64 k, .int .i64 x] h) : ∃ i : Nat, i ≤ n ∧ x = i ∧ J i k h := by
  obtain ⟨i, k', hi, hv, j⟩ := u
  simp at hv
  obtain ⟨rfl, rfl⟩ := hv
  exact ⟨i, hi, rfl, j⟩
theorem UpK.next {n : Nat} {J : Nat → Int → Heap → Prop} {g g' : Heap} {i : Nat} {k k' : Int} (hn : n < 281474976710656) (hi : i < n) (j : J (i + 1) k' g) :
    UpK n J [.int .i64 k', .int .i64 (IntKind.i64.wrap ((i : Int) + 1))] g ∧ UpKM n [.int .i64 k', .int .i64 (IntKind.i64.wrap ((i : Int) + 1))] g < UpKM n [.int .i64 k, .int .i64 (i : Int)] g' := by
  rw [wrap_succ (by omega)]
  refine ⟨⟨i + 1, k', by omega, rfl, j⟩, ?_⟩
  simp [UpKM, ivOf]; omega

theorem lt_of_dec {i n : Nat} (h : decide ((i : Int) < ((n : Nat) : Int)) = true) : i < n := by simpa using h
theorem ge_of_dec {i n : Nat} (h : decide ((i : Int) < ((n : Nat) : Int)) = false) : n ≤ i := by simpa using h

def Fresh (h : Heap) (F : List Nat) : Prop := F.Nodup ∧ ∀ x ∈ F, h.size ≤ x
theorem Fresh.nil (h : Heap) : Fresh h [] := ⟨List.nodup_nil, fun _ h => by cases h⟩
theorem Fresh.old {h h' : Heap} {F S : List Nat} (f : Fresh h' F) (e : Frm S h h') : Fresh h F := ⟨f.1, fun x hx => Nat.le_trans e.1 (f.2 x hx)⟩

/-! ### Marks -/

def mkI : Int → List Int → List Int
  | _, [] => []
  | k, _ :: xs => k :: mkI (k + 1) xs
def mkB : Int → List Bool → List Bool
  | _, [] => []
  | k, _ :: xs => (Int.tmod k 3 == 0) :: mkB (k + 1) xs
def mkL {α : Type} (mk : Int → List α → List α) : Int → List (List α) → List (List α)
  | _, [] => []
  | k, xs :: r => mk k xs :: mkL mk (k + xs.length) r
def total {α : Type} : List (List α) → Nat
  | [] => 0
  | x :: r => x.length + total r

theorem mkI_length : ∀ (xs : List Int) (k : Int), (mkI k xs).length = xs.length
  | [], _ => rfl
  | _ :: xs, k => by simp [mkI, mkI_length xs]
theorem mkB_length : ∀ (xs : List Bool) (k : Int), (mkB k xs).length = xs.length
  | [], _ => rfl
  | _ :: xs, k => by simp [mkB, mkB_length xs]
theorem mkI_get : ∀ (xs : List Int) (k : Int) (i : Nat) (h : i < (mkI k xs).length), (mkI k xs)[i] = k + i
  | [], _, i, h => by simp [mkI] at h
  | _ :: xs, k, 0, h => by simp [mkI]
  | _ :: xs, k, i + 1, h => by
    simp only [mkI, List.getElem_cons_succ]
    rw [mkI_get xs (k + 1) i]
    omega
theorem mkB_get : ∀ (xs : List Bool) (k : Int) (i : Nat) (h : i < (mkB k xs).length), (mkB k xs)[i] = (Int.tmod (k + i) 3 == 0)
  | [], _, i, h => by simp [mkB] at h
  | _ :: xs, k, 0, h => by simp [mkB]
  | _ :: xs, k, i + 1, h => by
    simp only [mkB, List.getElem_cons_succ]
    rw [mkB_get xs (k + 1) i]
    congr 2; omega
theorem mkL_length {α : Type} (mk : Int → List α → List α) : ∀ (xs : List (List α)) (k : Int), (mkL mk k xs).length = xs.length
  | [], _ => rfl
  | _ :: xs, k => by simp [mkL, mkL_length mk xs]
theorem mkL_get {α : Type} (mk : Int → List α → List α) : ∀ (xs : List (List α)) (k : Int) (i : Nat) (h : i < (mkL mk k xs).length) (h' : i < xs.length), (mkL mk k xs)[i] = mk (k + total (xs.take i)) xs[i]
  | [], _, i, h, _ => by simp [mkL] at h
  | x :: xs, k, 0, h, _ => by simp [mkL, total]
  | x :: xs, k, i + 1, h, h' => by
    simp only [mkL, List.getElem_cons_succ]
    rw [mkL_get mk xs (k + x.length) i _ (by simpa using h')]
    congr 1
    simp [total]; omega
theorem total_take {α : Type} : ∀ (xs : List (List α)) (i : Nat) (h : i < xs.length), total (xs.take (i + 1)) = total (xs.take i) + xs[i].length
  | [], i, h => by simp at h
  | x :: xs, 0, h => by simp [total]
  | x :: xs, i + 1, h => by
    simp only [List.take_succ_cons, total, List.getElem_cons_succ]
    rw [total_take xs i (by simpa using h)]; omega
theorem total_le {α : Type} : ∀ (xs : List (List α)) (i : Nat), total (xs.take i) ≤ total xs
  | [], i => by simp [total]
  | x :: xs, 0 => by simp [total]
  | x :: xs, i + 1 => by simp only [List.take_succ_cons, total]; have := total_le xs i; omega
/-- Marked up to i, the rest as it was. -/
def part {α : Type} (ys xs : List α) (i : Nat) : List α := ys.take i ++ xs.drop i
theorem part_zero {α : Type} (ys xs : List α) : part ys xs 0 = xs := by simp [part]
theorem part_all {α : Type} {ys xs : List α} (h : ys.length = xs.length) {i : Nat} (hi : xs.length ≤ i) : part ys xs i = ys := by
  simp [part, List.drop_eq_nil_of_le hi, List.take_of_length_le (h ▸ hi)]
theorem part_length {α : Type} {ys xs : List α} (h : ys.length = xs.length) (i : Nat) : (part ys xs i).length = xs.length := by
  simp [part]; omega
theorem part_set {α : Type} {ys xs : List α} (h : ys.length = xs.length) {i : Nat} (hi : i < xs.length) : (part ys xs i).set i (ys[i]'(h ▸ hi)) = part ys xs (i + 1) := by
  unfold part
  rw [List.set_append_right _ _ (by simp; omega)]
  rw [show i - (ys.take i).length = 0 from by simp; omega]
  have hy : i < ys.length := by omega
  rw [List.drop_eq_getElem_cons hi, List.set_cons_zero, List.take_succ_eq_append_getElem hy, List.append_assoc]
  rfl
theorem part_get {α : Type} {ys xs : List α} (h : ys.length = xs.length) {i : Nat} (hi : i < xs.length) (hp : i < (part ys xs i).length) : (part ys xs i)[i] = xs[i] := by
  have : (part ys xs i)[i]? = some xs[i] := by
    unfold part
    rw [List.getElem?_append_right (by simp; omega)]
    rw [show i - (ys.take i).length = 0 from by simp; omega, List.getElem?_drop]
    simp [hi]
  rw [List.getElem?_eq_getElem hp] at this
  injection this
end Go.Proofs.Ytjmhahjmbmiepaa.D

namespace Go.Proofs.Ytjmhahjmbmiepaa.D
open Go
set_option linter.unusedVariables false
set_option linter.unusedSimpArgs false

theorem Sl.intAt {h : Heap} {xs : List Int} {a : Option Addr} {n c : Nat} {F : List Nat} {t : TypeId} (s : Sl (kInt t) h xs a n c F) {i : Nat} (hi : i < xs.length) :
    ∃ b o, a = some ⟨b, o, none⟩ ∧ cellAt h b (o + i) = some (.int .i64 xs[i]) ∧ inI64 xs[i] := by
  obtain ⟨b, o, ci, Fi, ha, _, ⟨rfl, _, hr⟩, _, hc⟩ := s.at hi
  exact ⟨b, o, ha, by simpa [kInt] using hc 0 _ rfl, hr⟩
theorem Sl.boolAt {h : Heap} {xs : List Bool} {a : Option Addr} {n c : Nat} {F : List Nat} {t : TypeId} (s : Sl (kBool t) h xs a n c F) {i : Nat} (hi : i < xs.length) :
    ∃ b o, a = some ⟨b, o, none⟩ ∧ cellAt h b (o + i) = some (.bool xs[i]) := by
  obtain ⟨b, o, ci, Fi, ha, _, ⟨rfl, _⟩, _, hc⟩ := s.at hi
  exact ⟨b, o, ha, by simpa [kBool] using hc 0 _ rfl⟩
theorem Sl.slAt {α : Type} {k : Kind α} {h : Heap} {xs : List (List α)} {a : Option Addr} {n c : Nat} {F : List Nat} {t : TypeId} (s : Sl (kSl t k) h xs a n c F) {i : Nat} (hi : i < xs.length) :
    ∃ b o ai ni ci Fi, a = some ⟨b, o, none⟩ ∧ cellAt h b (o + i) = some (.slice ai ni ci) ∧ Sl k h xs[i] ai ni ci Fi ∧ ∀ x ∈ Fi, x ∈ F := by
  obtain ⟨b, o, ci, Fi, ha, _, ⟨ai, ni, cpi, rfl, si⟩, hF, hc⟩ := s.at hi
  exact ⟨b, o, ai, ni, cpi, Fi, ha, by simpa [kSl] using hc 0 _ rfl, si, hF⟩

theorem Sl.setInt {h : Heap} {xs : List Int} {a : Option Addr} {n c : Nat} {F : List Nat} {t : TypeId} (s : Sl (kInt t) h xs a n c F) (hF : F.Nodup) {i : Nat} (hi : i < xs.length) :
    ∃ b o row, a = some ⟨b, o, none⟩ ∧ b ∈ F ∧ Row h b t row ∧ o + i < row.length ∧ ∀ y, inI64 y → Sl (kInt t) (putRow h b t (row.set (o + i) (.int .i64 y))) (xs.set i y) a n c F := by
  obtain ⟨b, o, row, ci, Fi, ha, hb, r, hl, ⟨rfl, rfl, _⟩, _, _, hs⟩ := s.setCell hF hi (j := 0) (by simp [kInt])
  refine ⟨b, o, row, ha, hb, r, by simpa [kInt] using hl, fun y hy => ?_⟩
  have := hs (.int .i64 y) y ⟨rfl, rfl, hy⟩
  simpa [kInt] using this
theorem Sl.setBool {h : Heap} {xs : List Bool} {a : Option Addr} {n c : Nat} {F : List Nat} {t : TypeId} (s : Sl (kBool t) h xs a n c F) (hF : F.Nodup) {i : Nat} (hi : i < xs.length) :
    ∃ b o row, a = some ⟨b, o, none⟩ ∧ b ∈ F ∧ Row h b t row ∧ o + i < row.length ∧ ∀ y, Sl (kBool t) (putRow h b t (row.set (o + i) (.bool y))) (xs.set i y) a n c F := by
  obtain ⟨b, o, row, ci, Fi, ha, hb, r, hl, ⟨rfl, rfl⟩, _, _, hs⟩ := s.setCell hF hi (j := 0) (by simp [kBool])
  refine ⟨b, o, row, ha, hb, r, by simpa [kBool] using hl, fun y => ?_⟩
  have := hs (.bool y) y ⟨rfl, rfl⟩
  simpa [kBool] using this

/-- Numbers that a call only reads. -/
structure RdI (h : Heap) (xs : List Int) (a : Option Addr) (n : Nat) : Prop where
  len : n = xs.length
  lt : n < 9223372036854775808
  at_ : ∀ {i : Nat} (hi : i < xs.length), ∃ b o, a = some ⟨b, o, none⟩ ∧ cellAt h b (o + i) = some (.int .i64 xs[i]) ∧ inI64 xs[i]
theorem RdI.ext {h h' : Heap} {xs : List Int} {a : Option Addr} {n : Nat} (r : RdI h xs a n) (f : Ext h h') : RdI h' xs a n :=
  ⟨r.len, r.lt, fun hi => by
    obtain ⟨b, o, ha, hc, hr⟩ := r.at_ hi
    exact ⟨b, o, ha, cell_frm f hc (by simp), hr⟩⟩
theorem Sl.rd {h : Heap} {xs : List Int} {a : Option Addr} {n c : Nat} {F : List Nat} {t : TypeId} (s : Sl (kInt t) h xs a n c F) : RdI h xs a n := ⟨s.1, by have := s.2.1.2; omega, fun hi => s.intAt hi⟩


section
variable {h : Heap}
/-! ### Rows of rows -/

/-- What a callee turns inside one element. -/
theorem Sl.inner {α : Type} {k : Kind α} {xs : List (List α)} {a : Option Addr} {n c : Nat} {F : List Nat} {t : TypeId} (s : Sl (kSl t k) h xs a n c F) (hF : F.Nodup) {i : Nat} (hi : i < xs.length) :
    ∃ b o ai ni ci Fi, a = some ⟨b, o, none⟩ ∧ cellAt h b (o + i) = some (.slice ai ni ci) ∧ Sl k h xs[i] ai ni ci Fi ∧ Fi.Nodup ∧ (∀ x ∈ Fi, x ∈ F) ∧
      ∀ h1 zs, Frm Fi h h1 → Sl k h1 zs ai ni ci Fi → Sl (kSl t k) h1 (xs.set i zs) a n c F := by
  obtain ⟨hn, hc, hs⟩ := s
  rcases hs with ⟨rfl, rfl, rfl⟩ | ⟨b, pre, cs, post, G, rfl, r, hp, e, rfl⟩
  · omega
  · obtain ⟨c1, ci, c2, F1, Fi, F2, rfl, rfl, hl, e1, ⟨ai, ni, cpi, rfl, si⟩, e3⟩ := e.at hi
    have hl1 : c1.length = i := by rw [hl]; exact Nat.mul_one i
    obtain ⟨hbn, hG⟩ := List.nodup_cons.1 hF
    have hnd := List.nodup_append.1 hG
    have hnd1 := List.nodup_append.1 hnd.1
    refine ⟨b, pre.length, ai, ni, cpi, Fi, rfl, ?_, si, hnd1.2.1, fun x hx => by simp [hx], ?_⟩
    · rw [r.cell]
      have e0 : pre ++ (c1 ++ [Value.slice ai ni cpi] ++ c2) ++ post = (pre ++ c1) ++ ([Value.slice ai ni cpi] ++ (c2 ++ post)) := by simp
      rw [e0, List.getElem?_append_right (by simp; omega)]
      rw [show pre.length + i - (pre ++ c1).length = 0 from by simp; omega]
      rfl
    · intro h1 zs f s'
      have fr : ∀ b' ∈ F1 ++ F2, h1[b']? = h[b']? := by
        intro b' hb'
        have hm : b' ∈ F1 ++ Fi ++ F2 := by rcases List.mem_append.1 hb' with hb' | hb' <;> simp [hb']
        refine f.2 b' (e.lt b' hm) fun hx => ?_
        rcases List.mem_append.1 hb' with hb' | hb'
        · exact hnd1.2.2 b' hb' b' hx rfl
        · exact hnd.2.2 b' (by simp [hx]) b' hb' rfl
      refine ⟨by simpa using hn, hc, .inr ⟨b, pre, c1 ++ [Value.slice ai ni cpi] ++ c2, post, F1 ++ Fi ++ F2, rfl, r.frm f (fun hm => hbn (by simp [hm])), hp, ?_, rfl⟩⟩
      exact els_set hi (e1.frame fun b hb => fr b (by simp [hb])) (s'.rep t) (e3.frame fun b hb => fr b (by simp [hb]))


end
/-! ### Steps -/

structure StepD where
  kind : Int
  from_ : Int
  to : Int
  many : Int
  deriving DecidableEq
def StepD.ok (x : StepD) : Prop := inI64 x.kind ∧ inI64 x.from_ ∧ inI64 x.to ∧ inI64 x.many
def StepD.cells (x : StepD) : List Value := [.int .i64 x.kind, .int .i64 x.from_, .int .i64 x.to, .int .i64 x.many]
def kStep (t : TypeId) : Kind StepD where
  size := 4
  tid := t
  rep := fun _ x c F => c = x.cells ∧ F = [] ∧ x.ok
  pos := by omega
  len := by rintro _ _ _ _ ⟨rfl, _⟩; rfl
  frame := fun r _ => r
  lt := by rintro _ _ _ _ ⟨_, rfl, _⟩ b hb; cases hb
  one := by rintro _ _ _ _ ⟨rfl, _⟩ v hv; simp [StepD.cells] at hv; rcases hv with rfl | rfl | rfl | rfl <;> rfl

theorem Sl.stepAt {h : Heap} {xs : List StepD} {a : Option Addr} {n c : Nat} {F : List Nat} {t : TypeId} (s : Sl (kStep t) h xs a n c F) {i : Nat} (hi : i < xs.length) :
    ∃ b o, a = some ⟨b, o, none⟩ ∧ cellAt h b (o + i * 4) = some (.int .i64 xs[i].kind) ∧ cellAt h b (o + i * 4 + 1) = some (.int .i64 xs[i].from_) ∧
      cellAt h b (o + i * 4 + 2) = some (.int .i64 xs[i].to) ∧ cellAt h b (o + i * 4 + 3) = some (.int .i64 xs[i].many) ∧ xs[i].ok := by
  obtain ⟨b, o, ci, Fi, ha, _, ⟨rfl, _, hr⟩, _, hc⟩ := s.at hi
  simp only [kStep] at hc
  exact ⟨b, o, ha, hc 0 _ rfl, hc 1 _ rfl, hc 2 _ rfl, hc 3 _ rfl, hr⟩

theorem newStep {h h' : Heap} {e : TypeId} {c : List Value} (q : h' = newRowH h e c) : Row h' h.size e c ∧ Ext h h' ∧ h'.size = h.size + 1 := by
  subst q; exact ⟨Row.new _ _ _, Frm.new _ _ _ _, size_new _ _ _⟩
theorem putStep {h h' : Heap} {b : Nat} {e e' : TypeId} {c c' : List Value} (q : h' = putRow h b e c) (r : Row h b e' c') : Row h' b e c ∧ Frm [b] h h' ∧ h'.size = h.size := by
  subst q; exact ⟨Row.put _ _ _ (row_lt r), Frm.put _ _ _ (by simp), size_put _ _ _ _⟩
theorem Row.at {h : Heap} {b : Nat} {e : TypeId} {c : List Value} (r : Row h b e c) {o : Nat} {v : Value} (hv : c[o]? = some v) : cellAt h b o = some v := by rw [r.cell]; exact hv
theorem not1 {a b : Nat} (h : a ≠ b) : a ∉ [b] := by simpa using h
/-- A store into memory that 'a' has not. -/
theorem Ext.put {a h h' : Heap} {b : Nat} (k : Ext a h) (f : Frm [b] h h') (hb : a.size ≤ b) : Ext a h' := k.comp f fun x hx => by simp at hx; subst hx; exact .inl hb
/-- What a callee of its own memory did. -/
theorem Ext.fresh {a h h' : Heap} {F : List Nat} (k : Ext a h) (f : Frm F h h') (hb : ∀ x ∈ F, a.size ≤ x) : Ext a h' := k.comp f fun x hx => .inl (hb x hx)

structure RdS (h : Heap) (xs : List StepD) (a : Option Addr) (n : Nat) : Prop where
  len : n = xs.length
  lt : n < 9223372036854775808
  at_ : ∀ {i : Nat} (hi : i < xs.length), ∃ b o, a = some ⟨b, o, none⟩ ∧ cellAt h b (o + i * 4) = some (.int .i64 xs[i].kind) ∧ cellAt h b (o + i * 4 + 1) = some (.int .i64 xs[i].from_) ∧
      cellAt h b (o + i * 4 + 2) = some (.int .i64 xs[i].to) ∧ cellAt h b (o + i * 4 + 3) = some (.int .i64 xs[i].many) ∧ xs[i].ok
theorem RdS.ext {h h' : Heap} {xs : List StepD} {a : Option Addr} {n : Nat} (r : RdS h xs a n) (f : Ext h h') : RdS h' xs a n :=
  ⟨r.len, r.lt, fun hi => by
    obtain ⟨b, o, ha, h0, h1, h2, h3, hr⟩ := r.at_ hi
    exact ⟨b, o, ha, cell_frm f h0 (by simp), cell_frm f h1 (by simp), cell_frm f h2 (by simp), cell_frm f h3 (by simp), hr⟩⟩
/-- The i-th element is written whole. -/
theorem Sl.setElem {α : Type} {k : Kind α} {h : Heap} {xs : List α} {a : Option Addr} {n c : Nat} {F : List Nat} (s : Sl k h xs a n c F) (hF : F.Nodup) {i : Nat} (hi : i < xs.length) :
    ∃ b o row ci Fi, a = some ⟨b, o, none⟩ ∧ b ∈ F ∧ Row h b k.tid row ∧ o + i * k.size + k.size ≤ row.length ∧ k.rep h xs[i] ci Fi ∧ (∀ x ∈ Fi, x ∈ F ∧ x ≠ b) ∧
      ∀ news y, k.rep h y news Fi → Sl k (putRow h b k.tid (splice row (o + i * k.size) news)) (xs.set i y) a n c F := by
  obtain ⟨hn, hc, hs⟩ := s
  rcases hs with ⟨rfl, rfl, rfl⟩ | ⟨b, pre, cs, post, G, rfl, r, hp, e, rfl⟩
  · omega
  · obtain ⟨c1, ci, c2, F1, Fi, F2, rfl, rfl, hl, e1, e2, e3⟩ := e.at hi
    have hci := k.len e2
    have hbn : b ∉ F1 ++ Fi ++ F2 := (List.nodup_cons.1 hF).1
    have e0 : pre ++ (c1 ++ ci ++ c2) ++ post = (pre ++ c1) ++ (ci ++ (c2 ++ post)) := by simp
    refine ⟨b, pre.length, _, ci, Fi, rfl, by simp, r, by simp; omega, e2, fun x hx => ⟨by simp [hx], fun hh => hbn (by subst hh; simp [hx])⟩, ?_⟩
    intro news y ry
    have hnews := k.len ry
    refine ⟨by simpa using hn, hc, .inr ⟨b, pre, c1 ++ news ++ c2, post, F1 ++ Fi ++ F2, rfl, ?_, hp, ?_, rfl⟩⟩
    · have hset : splice (pre ++ (c1 ++ ci ++ c2) ++ post) (pre.length + i * k.size) news = pre ++ (c1 ++ news ++ c2) ++ post := by
        rw [e0]
        unfold splice
        have h1 : ((pre ++ c1) ++ (ci ++ (c2 ++ post))).take (pre.length + i * k.size) = pre ++ c1 := by
          rw [List.take_append_of_le_length (by simp; omega), List.take_of_length_le (by simp; omega)]
        have h2 : ((pre ++ c1) ++ (ci ++ (c2 ++ post))).drop (pre.length + i * k.size + news.length) = c2 ++ post := by
          rw [List.drop_append, List.drop_eq_nil_of_le (by simp; omega), List.drop_append, List.drop_eq_nil_of_le (by simp; omega)]
          rw [show pre.length + i * k.size + news.length - (pre ++ c1).length - ci.length = 0 from by simp; omega]
          simp
        rw [h1, h2]
        simp
      rw [hset]
      exact Row.put h _ _ (row_lt r)
    · have fr : ∀ b' ∈ F1 ++ Fi ++ F2, (putRow h b k.tid (splice (pre ++ (c1 ++ ci ++ c2) ++ post) (pre.length + i * k.size) news))[b']? = h[b']? := by
        intro b' hb'
        rw [get_put, if_neg]
        rintro rfl
        exact hbn hb'
      exact els_set hi (e1.frame fun b hb => fr b (by simp [hb])) (k.frame ry fun b hb => fr b (by simp [hb])) (e3.frame fun b hb => fr b (by simp [hb]))
theorem Sl.stepSet {h : Heap} {xs : List StepD} {a : Option Addr} {n c : Nat} {F : List Nat} {t : TypeId} (s : Sl (kStep t) h xs a n c F) (hF : F.Nodup) {i : Nat} (hi : i < xs.length) :
    ∃ b o row, a = some ⟨b, o, none⟩ ∧ b ∈ F ∧ Row h b t row ∧ o + i * 4 + 4 ≤ row.length ∧ ∀ y : StepD, y.ok → Sl (kStep t) (putRow h b t (splice row (o + i * 4) y.cells)) (xs.set i y) a n c F := by
  obtain ⟨b, o, row, ci, Fi, ha, hb, r, hl, ⟨_, rfl, _⟩, _, hs⟩ := s.setElem hF hi
  exact ⟨b, o, row, ha, hb, r, hl, fun y hy => hs _ y ⟨rfl, rfl, hy⟩⟩

end Go.Proofs.Ytjmhahjmbmiepaa.D
