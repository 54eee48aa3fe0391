/- Words for the heap: what stays, rows, cells. -/
import Derived.Test.YtjamacjoohelmaaDenM
namespace Go.Proofs.Ytjamacjoohelmaa.D
open Go
set_option linter.unusedVariables false

/-- Outside 'S' all that stood stands. -/
def Frm (S : List Nat) (h h' : Heap) : Prop := h.size ≤ h'.size ∧ ∀ b, b < h.size → b ∉ S → h'[b]? = h[b]?
abbrev Ext (h h' : Heap) : Prop := Frm [] h h'

theorem Frm.refl (S : List Nat) (h : Heap) : Frm S h h := ⟨Nat.le_refl _, fun _ _ _ => rfl⟩
theorem Frm.trans {S : List Nat} {a b c : Heap} (h : Frm S a b) (k : Frm S b c) : Frm S a c :=
  ⟨Nat.le_trans h.1 k.1, fun i hi hn => (k.2 i (Nat.lt_of_lt_of_le hi h.1) hn).trans (h.2 i hi hn)⟩
theorem Frm.mono {S S' : List Nat} {a b : Heap} (h : Frm S a b) (hs : ∀ x, x < a.size → x ∈ S → x ∈ S') : Frm S' a b :=
  ⟨h.1, fun i hi hn => h.2 i hi fun hm => hn (hs i hi hm)⟩
theorem Ext.frm {S : List Nat} {a b : Heap} (h : Ext a b) : Frm S a b := h.mono fun _ _ hm => by cases hm
/-- What is written behind the start of 'a' leaves 'a' alone. -/
theorem Frm.comp {S S' : List Nat} {a b c : Heap} (h : Frm S a b) (k : Frm S' b c) (hs : ∀ x ∈ S', a.size ≤ x ∨ x ∈ S) : Frm S a c :=
  ⟨Nat.le_trans h.1 k.1, fun i hi hn => (k.2 i (Nat.lt_of_lt_of_le hi h.1) fun hm => by rcases hs i hm with hh | hh; exact absurd hi (Nat.not_lt.2 hh); exact hn hh).trans (h.2 i hi hn)⟩

theorem size_new (h : Heap) (e : TypeId) (c : List Value) : (newRowH h e c).size = h.size + 1 := by simp [newRowH]
theorem size_put (h : Heap) (b : Nat) (e : TypeId) (c : List Value) : (putRow h b e c).size = h.size := by simp [putRow]
theorem get_new (h : Heap) (e : TypeId) (c : List Value) (b : Nat) : (newRowH h e c)[b]? = if b = h.size then some (.cells ⟨c⟩ e (0, 0)) else h[b]? := by
  unfold newRowH
  rw [Array.getElem?_push]
theorem get_put (h : Heap) (b : Nat) (e : TypeId) (c : List Value) (b' : Nat) : (putRow h b e c)[b']? = if b = b' then (if b' < h.size then some (.cells ⟨c⟩ e (0, 0)) else none) else h[b']? := by
  unfold putRow
  rw [Array.getElem?_setIfInBounds]
  by_cases hb : b = b'
  · subst hb; simp
  · simp [hb]

theorem Frm.new (S : List Nat) (h : Heap) (e : TypeId) (c : List Value) : Frm S h (newRowH h e c) :=
  ⟨by rw [size_new]; omega, fun b hb _ => by rw [get_new, if_neg (by omega)]⟩
theorem Frm.put {S : List Nat} (h : Heap) {b : Nat} (e : TypeId) (c : List Value) (hb : b ∈ S) : Frm S h (putRow h b e c) :=
  ⟨by rw [size_put]; exact Nat.le_refl _, fun b' hb' hn => by
    have hne : ¬ b = b' := fun hh => hn (by rw [← hh]; exact hb)
    rw [get_put, if_neg hne]⟩
/-- A store to a block that 'a' has not. -/
theorem Frm.putNew {S : List Nat} {a h : Heap} (k : Frm S a h) {b : Nat} (e : TypeId) (c : List Value) (hb : a.size ≤ b) : Frm S a (putRow h b e c) :=
  ⟨by rw [size_put]; exact k.1, fun b' hb' hn => by rw [get_put, if_neg (by omega)]; exact k.2 b' hb' hn⟩
theorem Frm.new' {S : List Nat} {a h : Heap} (k : Frm S a h) (e : TypeId) (c : List Value) : Frm S a (newRowH h e c) := k.trans (Frm.new S h e c)

theorem Row.new (h : Heap) (e : TypeId) (c : List Value) : Row (newRowH h e c) h.size e c := by unfold Row; rw [get_new, if_pos rfl]
theorem Row.frm {S : List Nat} {h h' : Heap} {b : Nat} {e : TypeId} {c : List Value} (r : Row h b e c) (k : Frm S h h') (hb : b ∉ S) : Row h' b e c :=
  (k.2 b (row_lt r) hb).trans r
theorem Row.put (h : Heap) {b : Nat} (e : TypeId) (c : List Value) (hb : b < h.size) : Row (putRow h b e c) b e c := row_put hb
theorem Row.inj {h : Heap} {b : Nat} {e e' : TypeId} {c c' : List Value} (r : Row h b e c) (r' : Row h b e' c') : e = e' ∧ c = c' := by
  unfold Row at r r'
  rw [r] at r'
  simp at r'
  exact ⟨r'.2, r'.1⟩

/-! ### Cells of the call's own boxes: by simp -/

theorem cell_new (h : Heap) (e : TypeId) (c : List Value) (b o : Nat) : cellAt (newRowH h e c) b o = if b = h.size then c[o]? else cellAt h b o := by
  unfold cellAt
  rw [get_new]
  by_cases hb : b = h.size <;> simp [hb]
theorem cell_put (h : Heap) (b : Nat) (e : TypeId) (c : List Value) (b' o : Nat) : cellAt (putRow h b e c) b' o = if b = b' then (if b' < h.size then c[o]? else none) else cellAt h b' o := by
  unfold cellAt
  rw [get_put]
  by_cases hb : b = b'
  · by_cases hl : b' < h.size <;> simp [hb, hl]
  · simp [hb]
theorem row_new_iff (h : Heap) (e : TypeId) (c : List Value) (b : Nat) (e' : TypeId) (c' : List Value) : Row (newRowH h e c) b e' c' ↔ if b = h.size then e = e' ∧ c = c' else Row h b e' c' := by
  unfold Row
  rw [get_new]
  by_cases hb : b = h.size
  · simp [hb]; constructor <;> (rintro ⟨rfl, rfl⟩; exact ⟨rfl, rfl⟩)
  · simp [hb]
theorem row_put_iff (h : Heap) (b : Nat) (e : TypeId) (c : List Value) (b' : Nat) (e' : TypeId) (c' : List Value) : Row (putRow h b e c) b' e' c' ↔ if b = b' then b' < h.size ∧ e = e' ∧ c = c' else Row h b' e' c' := by
  unfold Row
  rw [get_put]
  by_cases hb : b = b'
  · by_cases hl : b' < h.size
    · simp [hb, hl]; constructor <;> (rintro ⟨rfl, rfl⟩; exact ⟨rfl, rfl⟩)
    · simp [hb, hl]
  · simp [hb]
theorem cell_frm {S : List Nat} {h h' : Heap} (k : Frm S h h') {b o : Nat} {v : Value} (hc : cellAt h b o = some v) (hb : b ∉ S) : cellAt h' b o = some v := by
  have hlt : b < h.size := by
    unfold cellAt at hc
    rcases Nat.lt_or_ge b h.size with hl | hl
    · exact hl
    · rw [Array.getElem?_eq_none hl] at hc; cases hc
  unfold cellAt at hc ⊢
  rw [k.2 b hlt hb]
  exact hc

theorem wrap64_of {n : Int} (h0 : -9223372036854775808 ≤ n) (h1 : n < 9223372036854775808) : IntKind.i64.wrap n = n := wrap_i64 h0 h1

/-! ### Kinds of data -/

/-- How a datum lies in cells: its cells, the blocks that it holds. -/
structure Kind (α : Type) where
  size : Nat
  tid : TypeId
  rep : Heap → α → List Value → List Nat → Prop
  pos : 0 < size
  len : ∀ {h x c F}, rep h x c F → c.length = size
  frame : ∀ {h h' x c F}, rep h x c F → (∀ b ∈ F, h'[b]? = h[b]?) → rep h' x c F
  lt : ∀ {h x c F}, rep h x c F → ∀ b ∈ F, b < h.size
  one : ∀ {h x c F}, rep h x c F → ∀ v ∈ c, oneV v = true

theorem Kind.frm {α : Type} (k : Kind α) {h h' : Heap} {x : α} {c : List Value} {F S : List Nat} (r : k.rep h x c F) (f : Frm S h h') (hd : ∀ b ∈ F, b ∉ S) : k.rep h' x c F :=
  k.frame r fun b hb => f.2 b (k.lt r b hb) (hd b hb)
theorem Kind.ext {α : Type} (k : Kind α) {h h' : Heap} {x : α} {c : List Value} {F : List Nat} (r : k.rep h x c F) (f : Ext h h') : k.rep h' x c F :=
  k.frm r f fun _ _ h => by cases h

def inI64 (x : Int) : Prop := -9223372036854775808 ≤ x ∧ x < 9223372036854775808
def kInt (t : TypeId) : Kind Int where
  size := 1
  tid := t
  rep := fun _ x c F => c = [.int .i64 x] ∧ F = [] ∧ inI64 x
  pos := by omega
  len := by rintro _ _ _ _ ⟨rfl, _⟩; rfl
  frame := fun r _ => r
  lt := by rintro _ _ _ _ ⟨_, rfl, _⟩ b hb; cases hb
  one := by rintro _ _ _ _ ⟨rfl, _⟩ v hv; simp at hv; subst hv; rfl
def kBool (t : TypeId) : Kind Bool where
  size := 1
  tid := t
  rep := fun _ x c F => c = [.bool x] ∧ F = []
  pos := by omega
  len := by rintro _ _ _ _ ⟨rfl, _⟩; rfl
  frame := fun r _ => r
  lt := by rintro _ _ _ _ ⟨_, rfl⟩ b hb; cases hb
  one := by rintro _ _ _ _ ⟨rfl, _⟩ v hv; simp at hv; subst hv; rfl
def kStr (t : TypeId) : Kind ByteArray where
  size := 1
  tid := t
  rep := fun _ x c F => c = [.string x] ∧ F = []
  pos := by omega
  len := by rintro _ _ _ _ ⟨rfl, _⟩; rfl
  frame := fun r _ => r
  lt := by rintro _ _ _ _ ⟨_, rfl⟩ b hb; cases hb
  one := by rintro _ _ _ _ ⟨rfl, _⟩ v hv; simp at hv; subst hv; rfl
def kPair {α β : Type} (t : TypeId) (k : Kind α) (l : Kind β) : Kind (α × β) where
  size := k.size + l.size
  tid := t
  rep := fun h x c F => ∃ c1 c2 F1 F2, c = c1 ++ c2 ∧ F = F1 ++ F2 ∧ k.rep h x.1 c1 F1 ∧ l.rep h x.2 c2 F2
  pos := by have := k.pos; omega
  len := by rintro _ _ _ _ ⟨c1, c2, F1, F2, rfl, rfl, r1, r2⟩; rw [List.length_append, k.len r1, l.len r2]
  frame := by
    rintro _ _ _ _ _ ⟨c1, c2, F1, F2, rfl, rfl, r1, r2⟩ hf
    exact ⟨c1, c2, F1, F2, rfl, rfl, k.frame r1 fun b hb => hf b (List.mem_append_left _ hb), l.frame r2 fun b hb => hf b (List.mem_append_right _ hb)⟩
  lt := by
    rintro _ _ _ _ ⟨c1, c2, F1, F2, rfl, rfl, r1, r2⟩ b hb
    rcases List.mem_append.1 hb with hb | hb
    · exact k.lt r1 b hb
    · exact l.lt r2 b hb
  one := by
    rintro _ _ _ _ ⟨c1, c2, F1, F2, rfl, rfl, r1, r2⟩ b hb
    rcases List.mem_append.1 hb with hb | hb
    · exact k.one r1 b hb
    · exact l.one r2 b hb
/-- The same cells, read as another type. -/
def kIso {α β : Type} (t : TypeId) (k : Kind α) (f : β → α) : Kind β where
  size := k.size
  tid := t
  rep := fun h x c F => k.rep h (f x) c F
  pos := k.pos
  len := fun r => k.len r
  frame := fun r hf => k.frame r hf
  lt := fun r => k.lt r
  one := fun r => k.one r

/-- Elements one behind the other. -/
def Els {α : Type} (k : Kind α) (h : Heap) : List α → List Value → List Nat → Prop
  | [], c, F => c = [] ∧ F = []
  | x :: xs, c, F => ∃ c1 c2 F1 F2, c = c1 ++ c2 ∧ F = F1 ++ F2 ∧ k.rep h x c1 F1 ∧ Els k h xs c2 F2

section
variable {α : Type} {k : Kind α}
theorem Els.len {h : Heap} : ∀ {xs : List α} {c : List Value} {F : List Nat}, Els k h xs c F → c.length = xs.length * k.size
  | [], _, _, ⟨rfl, _⟩ => by simp
  | x :: xs, _, _, ⟨c1, c2, F1, F2, rfl, rfl, r, rs⟩ => by rw [List.length_append, k.len r, rs.len, List.length_cons, Nat.succ_mul, Nat.add_comm]
theorem Els.frame {h h' : Heap} : ∀ {xs : List α} {c : List Value} {F : List Nat}, Els k h xs c F → (∀ b ∈ F, h'[b]? = h[b]?) → Els k h' xs c F
  | [], _, _, e, _ => e
  | x :: xs, _, _, ⟨c1, c2, F1, F2, rfl, rfl, r, rs⟩, hf =>
    ⟨c1, c2, F1, F2, rfl, rfl, k.frame r fun b hb => hf b (List.mem_append_left _ hb), rs.frame fun b hb => hf b (List.mem_append_right _ hb)⟩
theorem Els.lt {h : Heap} : ∀ {xs : List α} {c : List Value} {F : List Nat}, Els k h xs c F → ∀ b ∈ F, b < h.size
  | [], _, _, ⟨_, rfl⟩, b, hb => by cases hb
  | x :: xs, _, _, ⟨c1, c2, F1, F2, rfl, rfl, r, rs⟩, b, hb => by
    rcases List.mem_append.1 hb with hb | hb
    · exact k.lt r b hb
    · exact rs.lt b hb
theorem Els.one {h : Heap} : ∀ {xs : List α} {c : List Value} {F : List Nat}, Els k h xs c F → ∀ v ∈ c, oneV v = true
  | [], _, _, ⟨rfl, _⟩, b, hb => by cases hb
  | x :: xs, _, _, ⟨c1, c2, F1, F2, rfl, rfl, r, rs⟩, b, hb => by
    rcases List.mem_append.1 hb with hb | hb
    · exact k.one r b hb
    · exact rs.one b hb
theorem Els.append {h : Heap} : ∀ {xs ys : List α} {c d : List Value} {F G : List Nat}, Els k h xs c F → Els k h ys d G → Els k h (xs ++ ys) (c ++ d) (F ++ G)
  | [], _, _, _, _, _, ⟨rfl, rfl⟩, s => s
  | x :: xs, _, _, _, _, _, ⟨c1, c2, F1, F2, rfl, rfl, r, rs⟩, s =>
    ⟨c1, c2 ++ _, F1, F2 ++ _, by simp, by simp, r, rs.append s⟩
theorem Els.single {h : Heap} {x : α} {c : List Value} {F : List Nat} (r : k.rep h x c F) : Els k h [x] c F :=
  ⟨c, [], F, [], by simp, by simp, r, rfl, rfl⟩
/-- The i-th element, what stands before it and behind it. -/
theorem Els.at {h : Heap} : ∀ {xs : List α} {c : List Value} {F : List Nat} {i : Nat}, Els k h xs c F → (hi : i < xs.length) →
    ∃ c1 ci c2 F1 Fi F2, c = c1 ++ ci ++ c2 ∧ F = F1 ++ Fi ++ F2 ∧ c1.length = i * k.size ∧ Els k h (xs.take i) c1 F1 ∧ k.rep h xs[i] ci Fi ∧ Els k h (xs.drop (i + 1)) c2 F2
  | [], _, _, _, _, hi => by simp at hi
  | x :: xs, _, _, 0, ⟨c1, c2, F1, F2, rfl, rfl, r, rs⟩, _ =>
    ⟨[], c1, c2, [], F1, F2, by simp, by simp, by simp, ⟨rfl, rfl⟩, r, by simpa using rs⟩
  | x :: xs, _, _, i + 1, ⟨c1, c2, F1, F2, rfl, rfl, r, rs⟩, hi => by
    obtain ⟨d1, di, d2, G1, Gi, G2, rfl, rfl, hl, e1, e2, e3⟩ := rs.at (i := i) (by simpa using hi)
    refine ⟨c1 ++ d1, di, d2, F1 ++ G1, Gi, G2, by simp, by simp, ?_, ⟨c1, d1, F1, G1, rfl, rfl, r, e1⟩, by simpa using e2, by simpa using e3⟩
    rw [List.length_append, k.len r, hl, Nat.succ_mul, Nat.add_comm]
end

/-- A slice that holds 'xs'. -/
def Sl {α : Type} (k : Kind α) (h : Heap) (xs : List α) (a : Option Addr) (n c : Nat) (F : List Nat) : Prop :=
  n = xs.length ∧ (n ≤ c ∧ n < 281474976710656) ∧ ((a = none ∧ c = 0 ∧ F = []) ∨
    ∃ b pre cs post G, a = some ⟨b, pre.length, none⟩ ∧ Row h b k.tid (pre ++ cs ++ post) ∧ (c - n) * k.size ≤ post.length ∧ Els k h xs cs G ∧ F = b :: G)

def kSl {α : Type} (t : TypeId) (k : Kind α) : Kind (List α) where
  size := 1
  tid := t
  rep := fun h xs c F => ∃ a n cap, c = [.slice a n cap] ∧ Sl k h xs a n cap F
  pos := by omega
  len := by rintro _ _ _ _ ⟨a, n, cap, rfl, _⟩; rfl
  frame := by
    rintro h h' xs c F ⟨a, n, cap, rfl, hn, hc, hs⟩ hf
    refine ⟨a, n, cap, rfl, hn, hc, ?_⟩
    rcases hs with hs | ⟨b, pre, cs, post, G, rfl, r, hp, e, rfl⟩
    · exact .inl hs
    · exact .inr ⟨b, pre, cs, post, G, rfl, (hf b (by simp)).trans r, hp, e.frame fun b hb => hf b (by simp [hb]), rfl⟩
  lt := by
    rintro h xs c F ⟨a, n, cap, rfl, hn, hc, hs⟩ x hx
    rcases hs with ⟨_, _, rfl⟩ | ⟨b, pre, cs, post, G, rfl, r, hp, e, rfl⟩
    · cases hx
    · rcases List.mem_cons.1 hx with rfl | hx
      · exact row_lt r
      · exact e.lt x hx
  one := by rintro _ _ _ _ ⟨a, n, cap, rfl, _⟩ v hv; simp at hv; subst hv; rfl

section
variable {α : Type} {k : Kind α} {h h' : Heap} {xs : List α} {a : Option Addr} {n c : Nat} {F S : List Nat}
theorem Sl.rep (t : TypeId) (s : Sl k h xs a n c F) : (kSl t k).rep h xs [.slice a n c] F := ⟨a, n, c, rfl, s⟩
theorem Sl.frm (s : Sl k h xs a n c F) (f : Frm S h h') (hd : ∀ b ∈ F, b ∉ S) : Sl k h' xs a n c F := by
  obtain ⟨a', n', c', he, s'⟩ := (kSl 0 k).frm (s.rep 0) f hd
  simp at he
  obtain ⟨rfl, rfl, rfl⟩ := he
  exact s'
theorem Sl.ext (s : Sl k h xs a n c F) (f : Ext h h') : Sl k h' xs a n c F := s.frm f fun _ _ h => by cases h
theorem Sl.lt (s : Sl k h xs a n c F) : ∀ b ∈ F, b < h.size := (kSl 0 k).lt (s.rep 0)
theorem Sl.nil (k : Kind α) (h : Heap) : Sl k h [] none 0 0 [] := ⟨rfl, by omega, .inl ⟨rfl, rfl, rfl⟩⟩
/-- The i-th element of a slice. -/
theorem Sl.at (s : Sl k h xs a n c F) {i : Nat} (hi : i < xs.length) : ∃ b o ci Fi, a = some ⟨b, o, none⟩ ∧ b ∈ F ∧ k.rep h xs[i] ci Fi ∧ (∀ x ∈ Fi, x ∈ F) ∧
    (∀ j v, ci[j]? = some v → cellAt h b (o + (i * k.size + j)) = some v) := by
  obtain ⟨hn, hc, hs⟩ := s
  rcases hs with ⟨rfl, rfl, rfl⟩ | ⟨b, pre, cs, post, G, rfl, r, hp, e, rfl⟩
  · omega
  · obtain ⟨c1, ci, c2, F1, Fi, F2, rfl, rfl, hl, _, e2, _⟩ := e.at hi
    refine ⟨b, pre.length, ci, Fi, rfl, by simp, e2, fun x hx => by simp [hx], fun j v hj => ?_⟩
    rw [r.cell]
    have hj' : j < ci.length := by
      rcases Nat.lt_or_ge j ci.length with hh | hh
      · exact hh
      · rw [List.getElem?_eq_none hh] at hj; cases hj
    have e1 : pre ++ (c1 ++ ci ++ c2) ++ post = (pre ++ c1) ++ (ci ++ (c2 ++ post)) := by simp
    rw [e1, List.getElem?_append_right (by simp; omega)]
    rw [show pre.length + (i * k.size + j) - (pre ++ c1).length = j from by simp; omega]
    rw [List.getElem?_append_left hj']
    exact hj
end
end Go.Proofs.Ytjamacjoohelmaa.D
