/- Kinds of data: structs. PRINTED by kinds.py. -/
import Derived.Test.YtjmhahjmbmiepaaSepH
import Derived.Test.YtjmhahjmbmiepaaBnkA
namespace Go.Proofs.Ytjmhahjmbmiepaa.D
open Go
set_option linter.unusedVariables false
set_option linter.unusedSimpArgs false

structure LabelD where
  name : ByteArray
  value : ByteArray
  deriving DecidableEq, Inhabited
def LabelD.ok (x : LabelD) : Prop := True
@[reducible] def LabelD.cells (x : LabelD) : List Value := [.string x.name, .string x.value]
def kLabel (t : TypeId) : Kind LabelD where
  size := 2
  tid := t
  rep := fun _ x c F => c = x.cells ∧ F = [] ∧ x.ok
  pos := by omega
  len := by rintro _ _ _ _ ⟨rfl, _⟩; rfl
  frame := fun r _ => r
  lt := by rintro _ _ _ _ ⟨_, rfl, _⟩ b hb; cases hb
  one := by rintro _ _ _ _ ⟨rfl, _⟩ v hv; simp [LabelD.cells] at hv; rcases hv with rfl | rfl <;> rfl
theorem flatLabel (t : TypeId) : (kLabel t).Flat := fun ⟨_, h, _⟩ => h
theorem repLabel {t : TypeId} {h : Heap} {x : LabelD} {ci : List Value} (r : Rep (kLabel t) h x ci) : ci = x.cells ∧ x.ok := by
  obtain ⟨F, hc, hF, hok⟩ := r
  exact ⟨hc, hok⟩
theorem SlR.nxLabel {t : TypeId} {h : Heap} {xs : List LabelD} {a : Option Addr} {n c i : Nat} {G : Nat → Nat → Prop} (r : SlR (kLabel t) h xs a n c) (h1 : i < n)
    (hk : ∀ b o, cellAt h b (o + i * 2) = some (.string (xs.getD i default).name) → cellAt h b (o + i * 2 + 1) = some (.string (xs.getD i default).value) → LabelD.ok (xs.getD i default) → G b o) : ∃ b o, a = some ⟨b, o, none⟩ ∧ (0 : Int) ≤ (i : Int) ∧ (i : Int) < (n : Int) ∧ G b o := by
  refine r.ix (i := (i : Int)) default (by omega) (by omega) fun b o ci hr hv => ?_
  obtain ⟨hc, hok⟩ := repLabel hr
  subst hc
  exact hk b o (hv 0 _ rfl) (hv 1 _ rfl) hok
theorem Own.openLabel {t : TypeId} {h : Heap} {L : List Asn} {x : LabelD} {ci : List Value} (H : Own h (elA (kLabel t) x ci :: L)) : ci = x.cells ∧ x.ok ∧ Own h L := by
  obtain ⟨F, ⟨M, nd, eM, hc, hF, hok⟩, w⟩ := H.turn
  exact ⟨hc, hok, H.drop⟩
theorem Own.shutLabel {t : TypeId} {h : Heap} {L : List Asn} (x : LabelD) (hok : x.ok) (H : Own h L) : Own h (elA (kLabel t) x x.cells :: L) :=
  H.add (G := fun _ => False) (Frm.refl _ _) ⟨[], List.nodup_nil, fun b => by simp, rfl, rfl, hok⟩ fun b hb => hb.elim
structure TotalD where
  labels : List LabelD
  sum : Int
  count : Int
  least : Int
  most : Int
  deriving DecidableEq, Inhabited
def TotalD.ok (x : TotalD) : Prop := inI64 x.sum ∧ inI64 x.count ∧ inI64 x.least ∧ inI64 x.most
@[reducible] def TotalD.cells (x : TotalD) (a0 : Option Addr) (n0 c0 : Nat) : List Value := [.slice a0 n0 c0, .int .i64 x.sum, .int .i64 x.count, .int .i64 x.least, .int .i64 x.most]
def kTotal (t : TypeId) : Kind TotalD where
  size := 5
  tid := t
  rep := fun h x c F => ∃ (a0 : Option Addr) (n0 c0 : Nat) (Q0 : List Nat), c = x.cells a0 n0 c0 ∧ F = Q0 ∧ x.ok ∧ Sl (kLabel ty_impl_Label) h x.labels a0 n0 c0 Q0
  pos := by omega
  len := by rintro _ _ _ _ ⟨a0, n0, c0, Q0, rfl, rfl, hok, s0⟩; rfl
  frame := by
    rintro h h' x c F ⟨a0, n0, c0, Q0, rfl, rfl, hok, s0⟩ hf
    exact ⟨a0, n0, c0, _, rfl, rfl, hok, slFrame s0 fun b hb => hf b hb⟩
  lt := by
    rintro h x c F ⟨a0, n0, c0, Q0, rfl, rfl, hok, s0⟩ b hb
    exact s0.lt b hb
  one := by rintro _ _ _ _ ⟨a0, n0, c0, Q0, rfl, rfl, hok, s0⟩ v hv; simp [TotalD.cells] at hv; rcases hv with rfl | rfl | rfl | rfl | rfl <;> rfl
theorem repTotal {t : TypeId} {h : Heap} {x : TotalD} {ci : List Value} (r : Rep (kTotal t) h x ci) : ∃ (a0 : Option Addr) (n0 c0 : Nat), ci = x.cells a0 n0 c0 ∧ x.ok ∧ SlR (kLabel ty_impl_Label) h x.labels a0 n0 c0 := by
  obtain ⟨F, a0, n0, c0, Q0, hc, hF, hok, s0⟩ := r
  exact ⟨a0, n0, c0, hc, hok, ⟨Q0, s0⟩⟩
theorem SlR.nxTotal {t : TypeId} {h : Heap} {xs : List TotalD} {a : Option Addr} {n c i : Nat} {G : Nat → Nat → Prop} (r : SlR (kTotal t) h xs a n c) (h1 : i < n)
    (hk : ∀ b o a0 n0 c0, cellAt h b (o + i * 5) = some (.slice a0 n0 c0) → cellAt h b (o + i * 5 + 1) = some (.int .i64 (xs.getD i default).sum) → cellAt h b (o + i * 5 + 2) = some (.int .i64 (xs.getD i default).count) → cellAt h b (o + i * 5 + 3) = some (.int .i64 (xs.getD i default).least) → cellAt h b (o + i * 5 + 4) = some (.int .i64 (xs.getD i default).most) → TotalD.ok (xs.getD i default) → SlR (kLabel ty_impl_Label) h (xs.getD i default).labels a0 n0 c0 → (n0 = ((xs.getD i default).labels).length ∧ n0 ≤ c0 ∧ n0 < 281474976710656) → G b o) : ∃ b o, a = some ⟨b, o, none⟩ ∧ (0 : Int) ≤ (i : Int) ∧ (i : Int) < (n : Int) ∧ G b o := by
  refine r.ix (i := (i : Int)) default (by omega) (by omega) fun b o ci hr hv => ?_
  obtain ⟨a0, n0, c0, hc, hok, s0⟩ := repTotal hr
  subst hc
  exact hk b o a0 n0 c0 (hv 0 _ rfl) (hv 1 _ rfl) (hv 2 _ rfl) (hv 3 _ rfl) (hv 4 _ rfl) hok s0 s0.len
theorem Own.openTotal {t : TypeId} {h : Heap} {L : List Asn} {x : TotalD} {ci : List Value} (H : Own h (elA (kTotal t) x ci :: L)) : ∃ (a0 : Option Addr) (n0 c0 : Nat), ci = x.cells a0 n0 c0 ∧ x.ok ∧ Own h (slA (kLabel ty_impl_Label) x.labels a0 n0 c0 :: L) := by
  obtain ⟨F, ⟨M, nd, eM, a0, n0, c0, Q0, rfl, rfl, hok, s⟩, w⟩ := H.turn
  exact ⟨a0, n0, c0, rfl, hok, w h (slA (kLabel ty_impl_Label) x.labels a0 n0 c0) F ⟨_, nd, eM, s⟩ ⟨Nat.le_refl _, fun _ _ _ => rfl⟩ fun b hb => .inl hb⟩
theorem Own.shutTotal {t : TypeId} {h : Heap} {L : List Asn} (x : TotalD) {a0 : Option Addr} {n0 c0 : Nat} (hok : x.ok) (H : Own h (slA (kLabel ty_impl_Label) x.labels a0 n0 c0 :: L)) : Own h (elA (kTotal t) x (x.cells a0 n0 c0) :: L) := by
  obtain ⟨F, ⟨M, nd, eM, s⟩, w⟩ := H.turn
  exact w h (elA (kTotal t) x (x.cells a0 n0 c0)) F ⟨M, nd, eM, a0, n0, c0, M, rfl, rfl, hok, s⟩ ⟨Nat.le_refl _, fun _ _ _ => rfl⟩ fun b hb => .inl hb
structure ItemD where
  labels : List LabelD
  value : Int
  deriving DecidableEq, Inhabited
def ItemD.ok (x : ItemD) : Prop := inI64 x.value
@[reducible] def ItemD.cells (x : ItemD) (a0 : Option Addr) (n0 c0 : Nat) : List Value := [.slice a0 n0 c0, .int .i64 x.value]
def kItem (t : TypeId) : Kind ItemD where
  size := 2
  tid := t
  rep := fun h x c F => ∃ (a0 : Option Addr) (n0 c0 : Nat) (Q0 : List Nat), c = x.cells a0 n0 c0 ∧ F = Q0 ∧ x.ok ∧ Sl (kLabel ty_impl_Label) h x.labels a0 n0 c0 Q0
  pos := by omega
  len := by rintro _ _ _ _ ⟨a0, n0, c0, Q0, rfl, rfl, hok, s0⟩; rfl
  frame := by
    rintro h h' x c F ⟨a0, n0, c0, Q0, rfl, rfl, hok, s0⟩ hf
    exact ⟨a0, n0, c0, _, rfl, rfl, hok, slFrame s0 fun b hb => hf b hb⟩
  lt := by
    rintro h x c F ⟨a0, n0, c0, Q0, rfl, rfl, hok, s0⟩ b hb
    exact s0.lt b hb
  one := by rintro _ _ _ _ ⟨a0, n0, c0, Q0, rfl, rfl, hok, s0⟩ v hv; simp [ItemD.cells] at hv; rcases hv with rfl | rfl <;> rfl
theorem repItem {t : TypeId} {h : Heap} {x : ItemD} {ci : List Value} (r : Rep (kItem t) h x ci) : ∃ (a0 : Option Addr) (n0 c0 : Nat), ci = x.cells a0 n0 c0 ∧ x.ok ∧ SlR (kLabel ty_impl_Label) h x.labels a0 n0 c0 := by
  obtain ⟨F, a0, n0, c0, Q0, hc, hF, hok, s0⟩ := r
  exact ⟨a0, n0, c0, hc, hok, ⟨Q0, s0⟩⟩
theorem SlR.nxItem {t : TypeId} {h : Heap} {xs : List ItemD} {a : Option Addr} {n c i : Nat} {G : Nat → Nat → Prop} (r : SlR (kItem t) h xs a n c) (h1 : i < n)
    (hk : ∀ b o a0 n0 c0, cellAt h b (o + i * 2) = some (.slice a0 n0 c0) → cellAt h b (o + i * 2 + 1) = some (.int .i64 (xs.getD i default).value) → ItemD.ok (xs.getD i default) → SlR (kLabel ty_impl_Label) h (xs.getD i default).labels a0 n0 c0 → (n0 = ((xs.getD i default).labels).length ∧ n0 ≤ c0 ∧ n0 < 281474976710656) → G b o) : ∃ b o, a = some ⟨b, o, none⟩ ∧ (0 : Int) ≤ (i : Int) ∧ (i : Int) < (n : Int) ∧ G b o := by
  refine r.ix (i := (i : Int)) default (by omega) (by omega) fun b o ci hr hv => ?_
  obtain ⟨a0, n0, c0, hc, hok, s0⟩ := repItem hr
  subst hc
  exact hk b o a0 n0 c0 (hv 0 _ rfl) (hv 1 _ rfl) hok s0 s0.len
theorem Own.openItem {t : TypeId} {h : Heap} {L : List Asn} {x : ItemD} {ci : List Value} (H : Own h (elA (kItem t) x ci :: L)) : ∃ (a0 : Option Addr) (n0 c0 : Nat), ci = x.cells a0 n0 c0 ∧ x.ok ∧ Own h (slA (kLabel ty_impl_Label) x.labels a0 n0 c0 :: L) := by
  obtain ⟨F, ⟨M, nd, eM, a0, n0, c0, Q0, rfl, rfl, hok, s⟩, w⟩ := H.turn
  exact ⟨a0, n0, c0, rfl, hok, w h (slA (kLabel ty_impl_Label) x.labels a0 n0 c0) F ⟨_, nd, eM, s⟩ ⟨Nat.le_refl _, fun _ _ _ => rfl⟩ fun b hb => .inl hb⟩
theorem Own.shutItem {t : TypeId} {h : Heap} {L : List Asn} (x : ItemD) {a0 : Option Addr} {n0 c0 : Nat} (hok : x.ok) (H : Own h (slA (kLabel ty_impl_Label) x.labels a0 n0 c0 :: L)) : Own h (elA (kItem t) x (x.cells a0 n0 c0) :: L) := by
  obtain ⟨F, ⟨M, nd, eM, s⟩, w⟩ := H.turn
  exact w h (elA (kItem t) x (x.cells a0 n0 c0)) F ⟨M, nd, eM, a0, n0, c0, M, rfl, rfl, hok, s⟩ ⟨Nat.le_refl _, fun _ _ _ => rfl⟩ fun b hb => .inl hb
structure NodeD where
  term : Int
  voted : Int
  age : Int
  heard : List Int
  role : Int
  deriving DecidableEq, Inhabited
def NodeD.ok (x : NodeD) : Prop := inI64 x.term ∧ inI64 x.voted ∧ inI64 x.age ∧ inI64 x.role
@[reducible] def NodeD.cells (x : NodeD) (a0 : Option Addr) (n0 c0 : Nat) : List Value := [.int .i64 x.term, .int .i64 x.voted, .int .i64 x.age, .slice a0 n0 c0, .int .i64 x.role]
def kNode (t : TypeId) : Kind NodeD where
  size := 5
  tid := t
  rep := fun h x c F => ∃ (a0 : Option Addr) (n0 c0 : Nat) (Q0 : List Nat), c = x.cells a0 n0 c0 ∧ F = Q0 ∧ x.ok ∧ Sl (kInt ty_int) h x.heard a0 n0 c0 Q0
  pos := by omega
  len := by rintro _ _ _ _ ⟨a0, n0, c0, Q0, rfl, rfl, hok, s0⟩; rfl
  frame := by
    rintro h h' x c F ⟨a0, n0, c0, Q0, rfl, rfl, hok, s0⟩ hf
    exact ⟨a0, n0, c0, _, rfl, rfl, hok, slFrame s0 fun b hb => hf b hb⟩
  lt := by
    rintro h x c F ⟨a0, n0, c0, Q0, rfl, rfl, hok, s0⟩ b hb
    exact s0.lt b hb
  one := by rintro _ _ _ _ ⟨a0, n0, c0, Q0, rfl, rfl, hok, s0⟩ v hv; simp [NodeD.cells] at hv; rcases hv with rfl | rfl | rfl | rfl | rfl <;> rfl
theorem repNode {t : TypeId} {h : Heap} {x : NodeD} {ci : List Value} (r : Rep (kNode t) h x ci) : ∃ (a0 : Option Addr) (n0 c0 : Nat), ci = x.cells a0 n0 c0 ∧ x.ok ∧ SlR (kInt ty_int) h x.heard a0 n0 c0 := by
  obtain ⟨F, a0, n0, c0, Q0, hc, hF, hok, s0⟩ := r
  exact ⟨a0, n0, c0, hc, hok, ⟨Q0, s0⟩⟩
theorem SlR.nxNode {t : TypeId} {h : Heap} {xs : List NodeD} {a : Option Addr} {n c i : Nat} {G : Nat → Nat → Prop} (r : SlR (kNode t) h xs a n c) (h1 : i < n)
    (hk : ∀ b o a0 n0 c0, cellAt h b (o + i * 5) = some (.int .i64 (xs.getD i default).term) → cellAt h b (o + i * 5 + 1) = some (.int .i64 (xs.getD i default).voted) → cellAt h b (o + i * 5 + 2) = some (.int .i64 (xs.getD i default).age) → cellAt h b (o + i * 5 + 3) = some (.slice a0 n0 c0) → cellAt h b (o + i * 5 + 4) = some (.int .i64 (xs.getD i default).role) → NodeD.ok (xs.getD i default) → SlR (kInt ty_int) h (xs.getD i default).heard a0 n0 c0 → (n0 = ((xs.getD i default).heard).length ∧ n0 ≤ c0 ∧ n0 < 281474976710656) → G b o) : ∃ b o, a = some ⟨b, o, none⟩ ∧ (0 : Int) ≤ (i : Int) ∧ (i : Int) < (n : Int) ∧ G b o := by
  refine r.ix (i := (i : Int)) default (by omega) (by omega) fun b o ci hr hv => ?_
  obtain ⟨a0, n0, c0, hc, hok, s0⟩ := repNode hr
  subst hc
  exact hk b o a0 n0 c0 (hv 0 _ rfl) (hv 1 _ rfl) (hv 2 _ rfl) (hv 3 _ rfl) (hv 4 _ rfl) hok s0 s0.len
theorem Own.openNode {t : TypeId} {h : Heap} {L : List Asn} {x : NodeD} {ci : List Value} (H : Own h (elA (kNode t) x ci :: L)) : ∃ (a0 : Option Addr) (n0 c0 : Nat), ci = x.cells a0 n0 c0 ∧ x.ok ∧ Own h (slA (kInt ty_int) x.heard a0 n0 c0 :: L) := by
  obtain ⟨F, ⟨M, nd, eM, a0, n0, c0, Q0, rfl, rfl, hok, s⟩, w⟩ := H.turn
  exact ⟨a0, n0, c0, rfl, hok, w h (slA (kInt ty_int) x.heard a0 n0 c0) F ⟨_, nd, eM, s⟩ ⟨Nat.le_refl _, fun _ _ _ => rfl⟩ fun b hb => .inl hb⟩
theorem Own.shutNode {t : TypeId} {h : Heap} {L : List Asn} (x : NodeD) {a0 : Option Addr} {n0 c0 : Nat} (hok : x.ok) (H : Own h (slA (kInt ty_int) x.heard a0 n0 c0 :: L)) : Own h (elA (kNode t) x (x.cells a0 n0 c0) :: L) := by
  obtain ⟨F, ⟨M, nd, eM, s⟩, w⟩ := H.turn
  exact w h (elA (kNode t) x (x.cells a0 n0 c0)) F ⟨M, nd, eM, a0, n0, c0, M, rfl, rfl, hok, s⟩ ⟨Nat.le_refl _, fun _ _ _ => rfl⟩ fun b hb => .inl hb
structure LetterD where
  from_ : Int
  to : Int
  term : Int
  ask : Bool
  age : Int
  deriving DecidableEq, Inhabited
def LetterD.ok (x : LetterD) : Prop := inI64 x.from_ ∧ inI64 x.to ∧ inI64 x.term ∧ inI64 x.age
@[reducible] def LetterD.cells (x : LetterD) : List Value := [.int .i64 x.from_, .int .i64 x.to, .int .i64 x.term, .bool x.ask, .int .i64 x.age]
def kLetter (t : TypeId) : Kind LetterD where
  size := 5
  tid := t
  rep := fun _ x c F => c = x.cells ∧ F = [] ∧ x.ok
  pos := by omega
  len := by rintro _ _ _ _ ⟨rfl, _⟩; rfl
  frame := fun r _ => r
  lt := by rintro _ _ _ _ ⟨_, rfl, _⟩ b hb; cases hb
  one := by rintro _ _ _ _ ⟨rfl, _⟩ v hv; simp [LetterD.cells] at hv; rcases hv with rfl | rfl | rfl | rfl | rfl <;> rfl
theorem flatLetter (t : TypeId) : (kLetter t).Flat := fun ⟨_, h, _⟩ => h
theorem repLetter {t : TypeId} {h : Heap} {x : LetterD} {ci : List Value} (r : Rep (kLetter t) h x ci) : ci = x.cells ∧ x.ok := by
  obtain ⟨F, hc, hF, hok⟩ := r
  exact ⟨hc, hok⟩
theorem SlR.nxLetter {t : TypeId} {h : Heap} {xs : List LetterD} {a : Option Addr} {n c i : Nat} {G : Nat → Nat → Prop} (r : SlR (kLetter t) h xs a n c) (h1 : i < n)
    (hk : ∀ b o, cellAt h b (o + i * 5) = some (.int .i64 (xs.getD i default).from_) → cellAt h b (o + i * 5 + 1) = some (.int .i64 (xs.getD i default).to) → cellAt h b (o + i * 5 + 2) = some (.int .i64 (xs.getD i default).term) → cellAt h b (o + i * 5 + 3) = some (.bool (xs.getD i default).ask) → cellAt h b (o + i * 5 + 4) = some (.int .i64 (xs.getD i default).age) → LetterD.ok (xs.getD i default) → G b o) : ∃ b o, a = some ⟨b, o, none⟩ ∧ (0 : Int) ≤ (i : Int) ∧ (i : Int) < (n : Int) ∧ G b o := by
  refine r.ix (i := (i : Int)) default (by omega) (by omega) fun b o ci hr hv => ?_
  obtain ⟨hc, hok⟩ := repLetter hr
  subst hc
  exact hk b o (hv 0 _ rfl) (hv 1 _ rfl) (hv 2 _ rfl) (hv 3 _ rfl) (hv 4 _ rfl) hok
theorem Own.openLetter {t : TypeId} {h : Heap} {L : List Asn} {x : LetterD} {ci : List Value} (H : Own h (elA (kLetter t) x ci :: L)) : ci = x.cells ∧ x.ok ∧ Own h L := by
  obtain ⟨F, ⟨M, nd, eM, hc, hF, hok⟩, w⟩ := H.turn
  exact ⟨hc, hok, H.drop⟩
theorem Own.shutLetter {t : TypeId} {h : Heap} {L : List Asn} (x : LetterD) (hok : x.ok) (H : Own h L) : Own h (elA (kLetter t) x x.cells :: L) :=
  H.add (G := fun _ => False) (Frm.refl _ _) ⟨[], List.nodup_nil, fun b => by simp, rfl, rfl, hok⟩ fun b hb => hb.elim
structure VoteStepD where
  kind : Int
  k : Int
  deriving DecidableEq, Inhabited
def VoteStepD.ok (x : VoteStepD) : Prop := inI64 x.kind ∧ inI64 x.k
@[reducible] def VoteStepD.cells (x : VoteStepD) : List Value := [.int .i64 x.kind, .int .i64 x.k]
def kVoteStep (t : TypeId) : Kind VoteStepD where
  size := 2
  tid := t
  rep := fun _ x c F => c = x.cells ∧ F = [] ∧ x.ok
  pos := by omega
  len := by rintro _ _ _ _ ⟨rfl, _⟩; rfl
  frame := fun r _ => r
  lt := by rintro _ _ _ _ ⟨_, rfl, _⟩ b hb; cases hb
  one := by rintro _ _ _ _ ⟨rfl, _⟩ v hv; simp [VoteStepD.cells] at hv; rcases hv with rfl | rfl <;> rfl
theorem flatVoteStep (t : TypeId) : (kVoteStep t).Flat := fun ⟨_, h, _⟩ => h
theorem repVoteStep {t : TypeId} {h : Heap} {x : VoteStepD} {ci : List Value} (r : Rep (kVoteStep t) h x ci) : ci = x.cells ∧ x.ok := by
  obtain ⟨F, hc, hF, hok⟩ := r
  exact ⟨hc, hok⟩
theorem SlR.nxVoteStep {t : TypeId} {h : Heap} {xs : List VoteStepD} {a : Option Addr} {n c i : Nat} {G : Nat → Nat → Prop} (r : SlR (kVoteStep t) h xs a n c) (h1 : i < n)
    (hk : ∀ b o, cellAt h b (o + i * 2) = some (.int .i64 (xs.getD i default).kind) → cellAt h b (o + i * 2 + 1) = some (.int .i64 (xs.getD i default).k) → VoteStepD.ok (xs.getD i default) → G b o) : ∃ b o, a = some ⟨b, o, none⟩ ∧ (0 : Int) ≤ (i : Int) ∧ (i : Int) < (n : Int) ∧ G b o := by
  refine r.ix (i := (i : Int)) default (by omega) (by omega) fun b o ci hr hv => ?_
  obtain ⟨hc, hok⟩ := repVoteStep hr
  subst hc
  exact hk b o (hv 0 _ rfl) (hv 1 _ rfl) hok
theorem Own.openVoteStep {t : TypeId} {h : Heap} {L : List Asn} {x : VoteStepD} {ci : List Value} (H : Own h (elA (kVoteStep t) x ci :: L)) : ci = x.cells ∧ x.ok ∧ Own h L := by
  obtain ⟨F, ⟨M, nd, eM, hc, hF, hok⟩, w⟩ := H.turn
  exact ⟨hc, hok, H.drop⟩
theorem Own.shutVoteStep {t : TypeId} {h : Heap} {L : List Asn} (x : VoteStepD) (hok : x.ok) (H : Own h L) : Own h (elA (kVoteStep t) x x.cells :: L) :=
  H.add (G := fun _ => False) (Frm.refl _ _) ⟨[], List.nodup_nil, fun b => by simp, rfl, rfl, hok⟩ fun b hb => hb.elim
end Go.Proofs.Ytjmhahjmbmiepaa.D
