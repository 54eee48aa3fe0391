/- Kinds of data: structs. PRINTED by kinds.py. -/
import Derived.Test.YtjmhahjmbmiepaaSepH
import Derived.Test.YtjmhahjmbmiepaaBnkA
namespace Go.Proofs.Ytjmhahjmbmiepaa.D
open Go
set_option linter.unusedVariables false
set_option linter.unusedSimpArgs false

structure SampleD where
  at_ : Int
  value : Int
  deriving DecidableEq, Inhabited
def SampleD.ok (x : SampleD) : Prop := inI64 x.at_ ∧ inI64 x.value
@[reducible] def SampleD.cells (x : SampleD) : List Value := [.int .i64 x.at_, .int .i64 x.value]
def kSample (t : TypeId) : Kind SampleD where
  size := 2
  tid := t
  rep := fun _ x c F => c = x.cells ∧ F = [] ∧ x.ok
  pos := by omega
  len := by rintro _ _ _ _ ⟨rfl, _⟩; rfl
  frame := fun r _ => r
  lt := by rintro _ _ _ _ ⟨_, rfl, _⟩ b hb; cases hb
  one := by rintro _ _ _ _ ⟨rfl, _⟩ v hv; simp [SampleD.cells] at hv; rcases hv with rfl | rfl <;> rfl
theorem flatSample (t : TypeId) : (kSample t).Flat := fun ⟨_, h, _⟩ => h
theorem repSample {t : TypeId} {h : Heap} {x : SampleD} {ci : List Value} (r : Rep (kSample t) h x ci) : ci = x.cells ∧ x.ok := by
  obtain ⟨F, hc, hF, hok⟩ := r
  exact ⟨hc, hok⟩
theorem SlR.nxSample {t : TypeId} {h : Heap} {xs : List SampleD} {a : Option Addr} {n c i : Nat} {G : Nat → Nat → Prop} (r : SlR (kSample t) h xs a n c) (h1 : i < n)
    (hk : ∀ b o, cellAt h b (o + i * 2) = some (.int .i64 (xs.getD i default).at_) → cellAt h b (o + i * 2 + 1) = some (.int .i64 (xs.getD i default).value) → SampleD.ok (xs.getD i default) → G b o) : ∃ b o, a = some ⟨b, o, none⟩ ∧ (0 : Int) ≤ (i : Int) ∧ (i : Int) < (n : Int) ∧ G b o := by
  refine r.ix (i := (i : Int)) default (by omega) (by omega) fun b o ci hr hv => ?_
  obtain ⟨hc, hok⟩ := repSample hr
  subst hc
  exact hk b o (hv 0 _ rfl) (hv 1 _ rfl) hok
theorem Own.openSample {t : TypeId} {h : Heap} {L : List Asn} {x : SampleD} {ci : List Value} (H : Own h (elA (kSample t) x ci :: L)) : ci = x.cells ∧ x.ok ∧ Own h L := by
  obtain ⟨F, ⟨M, nd, eM, hc, hF, hok⟩, w⟩ := H.turn
  exact ⟨hc, hok, H.drop⟩
theorem Own.shutSample {t : TypeId} {h : Heap} {L : List Asn} (x : SampleD) (hok : x.ok) (H : Own h L) : Own h (elA (kSample t) x x.cells :: L) :=
  H.add (G := fun _ => False) (Frm.refl _ _) ⟨[], List.nodup_nil, fun b => by simp, rfl, rfl, hok⟩ fun b hb => hb.elim
structure SayD where
  name : ByteArray
  at_ : Int
  value : Int
  deriving DecidableEq, Inhabited
def SayD.ok (x : SayD) : Prop := inI64 x.at_ ∧ inI64 x.value
@[reducible] def SayD.cells (x : SayD) : List Value := [.string x.name, .int .i64 x.at_, .int .i64 x.value]
def kSay (t : TypeId) : Kind SayD where
  size := 3
  tid := t
  rep := fun _ x c F => c = x.cells ∧ F = [] ∧ x.ok
  pos := by omega
  len := by rintro _ _ _ _ ⟨rfl, _⟩; rfl
  frame := fun r _ => r
  lt := by rintro _ _ _ _ ⟨_, rfl, _⟩ b hb; cases hb
  one := by rintro _ _ _ _ ⟨rfl, _⟩ v hv; simp [SayD.cells] at hv; rcases hv with rfl | rfl | rfl <;> rfl
theorem flatSay (t : TypeId) : (kSay t).Flat := fun ⟨_, h, _⟩ => h
theorem repSay {t : TypeId} {h : Heap} {x : SayD} {ci : List Value} (r : Rep (kSay t) h x ci) : ci = x.cells ∧ x.ok := by
  obtain ⟨F, hc, hF, hok⟩ := r
  exact ⟨hc, hok⟩
theorem SlR.nxSay {t : TypeId} {h : Heap} {xs : List SayD} {a : Option Addr} {n c i : Nat} {G : Nat → Nat → Prop} (r : SlR (kSay t) h xs a n c) (h1 : i < n)
    (hk : ∀ b o, cellAt h b (o + i * 3) = some (.string (xs.getD i default).name) → cellAt h b (o + i * 3 + 1) = some (.int .i64 (xs.getD i default).at_) → cellAt h b (o + i * 3 + 2) = some (.int .i64 (xs.getD i default).value) → SayD.ok (xs.getD i default) → G b o) : ∃ b o, a = some ⟨b, o, none⟩ ∧ (0 : Int) ≤ (i : Int) ∧ (i : Int) < (n : Int) ∧ G b o := by
  refine r.ix (i := (i : Int)) default (by omega) (by omega) fun b o ci hr hv => ?_
  obtain ⟨hc, hok⟩ := repSay hr
  subst hc
  exact hk b o (hv 0 _ rfl) (hv 1 _ rfl) (hv 2 _ rfl) hok
theorem Own.openSay {t : TypeId} {h : Heap} {L : List Asn} {x : SayD} {ci : List Value} (H : Own h (elA (kSay t) x ci :: L)) : ci = x.cells ∧ x.ok ∧ Own h L := by
  obtain ⟨F, ⟨M, nd, eM, hc, hF, hok⟩, w⟩ := H.turn
  exact ⟨hc, hok, H.drop⟩
theorem Own.shutSay {t : TypeId} {h : Heap} {L : List Asn} (x : SayD) (hok : x.ok) (H : Own h L) : Own h (elA (kSay t) x x.cells :: L) :=
  H.add (G := fun _ => False) (Frm.refl _ _) ⟨[], List.nodup_nil, fun b => by simp, rfl, rfl, hok⟩ fun b hb => hb.elim
structure HouseStepD where
  kind : Int
  part : Int
  what : SayD
  deriving DecidableEq, Inhabited
def HouseStepD.ok (x : HouseStepD) : Prop := inI64 x.kind ∧ inI64 x.part ∧ inI64 x.what.at_ ∧ inI64 x.what.value
@[reducible] def HouseStepD.cells (x : HouseStepD) : List Value := [.int .i64 x.kind, .int .i64 x.part, .string x.what.name, .int .i64 x.what.at_, .int .i64 x.what.value]
def kHouseStep (t : TypeId) : Kind HouseStepD where
  size := 5
  tid := t
  rep := fun _ x c F => c = x.cells ∧ F = [] ∧ x.ok
  pos := by omega
  len := by rintro _ _ _ _ ⟨rfl, _⟩; rfl
  frame := fun r _ => r
  lt := by rintro _ _ _ _ ⟨_, rfl, _⟩ b hb; cases hb
  one := by rintro _ _ _ _ ⟨rfl, _⟩ v hv; simp [HouseStepD.cells] at hv; rcases hv with rfl | rfl | rfl | rfl | rfl <;> rfl
theorem flatHouseStep (t : TypeId) : (kHouseStep t).Flat := fun ⟨_, h, _⟩ => h
theorem repHouseStep {t : TypeId} {h : Heap} {x : HouseStepD} {ci : List Value} (r : Rep (kHouseStep t) h x ci) : ci = x.cells ∧ x.ok := by
  obtain ⟨F, hc, hF, hok⟩ := r
  exact ⟨hc, hok⟩
theorem SlR.nxHouseStep {t : TypeId} {h : Heap} {xs : List HouseStepD} {a : Option Addr} {n c i : Nat} {G : Nat → Nat → Prop} (r : SlR (kHouseStep t) h xs a n c) (h1 : i < n)
    (hk : ∀ b o, cellAt h b (o + i * 5) = some (.int .i64 (xs.getD i default).kind) → cellAt h b (o + i * 5 + 1) = some (.int .i64 (xs.getD i default).part) → cellAt h b (o + i * 5 + 2) = some (.string (xs.getD i default).what.name) → cellAt h b (o + i * 5 + 3) = some (.int .i64 (xs.getD i default).what.at_) → cellAt h b (o + i * 5 + 4) = some (.int .i64 (xs.getD i default).what.value) → HouseStepD.ok (xs.getD i default) → G b o) : ∃ b o, a = some ⟨b, o, none⟩ ∧ (0 : Int) ≤ (i : Int) ∧ (i : Int) < (n : Int) ∧ G b o := by
  refine r.ix (i := (i : Int)) default (by omega) (by omega) fun b o ci hr hv => ?_
  obtain ⟨hc, hok⟩ := repHouseStep hr
  subst hc
  exact hk b o (hv 0 _ rfl) (hv 1 _ rfl) (hv 2 _ rfl) (hv 3 _ rfl) (hv 4 _ rfl) hok
theorem Own.openHouseStep {t : TypeId} {h : Heap} {L : List Asn} {x : HouseStepD} {ci : List Value} (H : Own h (elA (kHouseStep t) x ci :: L)) : ci = x.cells ∧ x.ok ∧ Own h L := by
  obtain ⟨F, ⟨M, nd, eM, hc, hF, hok⟩, w⟩ := H.turn
  exact ⟨hc, hok, H.drop⟩
theorem Own.shutHouseStep {t : TypeId} {h : Heap} {L : List Asn} (x : HouseStepD) (hok : x.ok) (H : Own h L) : Own h (elA (kHouseStep t) x x.cells :: L) :=
  H.add (G := fun _ => False) (Frm.refl _ _) ⟨[], List.nodup_nil, fun b => by simp, rfl, rfl, hok⟩ fun b hb => hb.elim
structure RowD where
  name : ByteArray
  samples : List SampleD
  deriving DecidableEq, Inhabited
def RowD.ok (x : RowD) : Prop := True
@[reducible] def RowD.cells (x : RowD) (a0 : Option Addr) (n0 c0 : Nat) : List Value := [.string x.name, .slice a0 n0 c0]
def kRow (t : TypeId) : Kind RowD where
  size := 2
  tid := t
  rep := fun h x c F => ∃ (a0 : Option Addr) (n0 c0 : Nat) (Q0 : List Nat), c = x.cells a0 n0 c0 ∧ F = Q0 ∧ x.ok ∧ Sl (kSample ty_impl_Sample) h x.samples a0 n0 c0 Q0
  pos := by omega
  len := by rintro _ _ _ _ ⟨a0, n0, c0, Q0, rfl, rfl, hok, s0⟩; rfl
  frame := by
    rintro h h' x c F ⟨a0, n0, c0, Q0, rfl, rfl, hok, s0⟩ hf
    exact ⟨a0, n0, c0, _, rfl, rfl, hok, slFrame s0 fun b hb => hf b hb⟩
  lt := by
    rintro h x c F ⟨a0, n0, c0, Q0, rfl, rfl, hok, s0⟩ b hb
    exact s0.lt b hb
  one := by rintro _ _ _ _ ⟨a0, n0, c0, Q0, rfl, rfl, hok, s0⟩ v hv; simp [RowD.cells] at hv; rcases hv with rfl | rfl <;> rfl
theorem repRow {t : TypeId} {h : Heap} {x : RowD} {ci : List Value} (r : Rep (kRow t) h x ci) : ∃ (a0 : Option Addr) (n0 c0 : Nat), ci = x.cells a0 n0 c0 ∧ x.ok ∧ SlR (kSample ty_impl_Sample) h x.samples a0 n0 c0 := by
  obtain ⟨F, a0, n0, c0, Q0, hc, hF, hok, s0⟩ := r
  exact ⟨a0, n0, c0, hc, hok, ⟨Q0, s0⟩⟩
theorem SlR.nxRow {t : TypeId} {h : Heap} {xs : List RowD} {a : Option Addr} {n c i : Nat} {G : Nat → Nat → Prop} (r : SlR (kRow t) h xs a n c) (h1 : i < n)
    (hk : ∀ b o a0 n0 c0, cellAt h b (o + i * 2) = some (.string (xs.getD i default).name) → cellAt h b (o + i * 2 + 1) = some (.slice a0 n0 c0) → RowD.ok (xs.getD i default) → SlR (kSample ty_impl_Sample) h (xs.getD i default).samples a0 n0 c0 → (n0 = ((xs.getD i default).samples).length ∧ n0 ≤ c0 ∧ n0 < 281474976710656) → G b o) : ∃ b o, a = some ⟨b, o, none⟩ ∧ (0 : Int) ≤ (i : Int) ∧ (i : Int) < (n : Int) ∧ G b o := by
  refine r.ix (i := (i : Int)) default (by omega) (by omega) fun b o ci hr hv => ?_
  obtain ⟨a0, n0, c0, hc, hok, s0⟩ := repRow hr
  subst hc
  exact hk b o a0 n0 c0 (hv 0 _ rfl) (hv 1 _ rfl) hok s0 s0.len
theorem Own.openRow {t : TypeId} {h : Heap} {L : List Asn} {x : RowD} {ci : List Value} (H : Own h (elA (kRow t) x ci :: L)) : ∃ (a0 : Option Addr) (n0 c0 : Nat), ci = x.cells a0 n0 c0 ∧ x.ok ∧ Own h (slA (kSample ty_impl_Sample) x.samples a0 n0 c0 :: L) := by
  obtain ⟨F, ⟨M, nd, eM, a0, n0, c0, Q0, rfl, rfl, hok, s⟩, w⟩ := H.turn
  exact ⟨a0, n0, c0, rfl, hok, w h (slA (kSample ty_impl_Sample) x.samples a0 n0 c0) F ⟨_, nd, eM, s⟩ ⟨Nat.le_refl _, fun _ _ _ => rfl⟩ fun b hb => .inl hb⟩
theorem Own.shutRow {t : TypeId} {h : Heap} {L : List Asn} (x : RowD) {a0 : Option Addr} {n0 c0 : Nat} (hok : x.ok) (H : Own h (slA (kSample ty_impl_Sample) x.samples a0 n0 c0 :: L)) : Own h (elA (kRow t) x (x.cells a0 n0 c0) :: L) := by
  obtain ⟨F, ⟨M, nd, eM, s⟩, w⟩ := H.turn
  exact w h (elA (kRow t) x (x.cells a0 n0 c0)) F ⟨M, nd, eM, a0, n0, c0, M, rfl, rfl, hok, s⟩ ⟨Nat.le_refl _, fun _ _ _ => rfl⟩ fun b hb => .inl hb
structure HeadD where
  rows : List RowD
  offset : Int
  deriving DecidableEq, Inhabited
def HeadD.ok (x : HeadD) : Prop := inI64 x.offset
@[reducible] def HeadD.cells (x : HeadD) (a0 : Option Addr) (n0 c0 : Nat) : List Value := [.slice a0 n0 c0, .int .i64 x.offset]
def kHead (t : TypeId) : Kind HeadD where
  size := 2
  tid := t
  rep := fun h x c F => ∃ (a0 : Option Addr) (n0 c0 : Nat) (Q0 : List Nat), c = x.cells a0 n0 c0 ∧ F = Q0 ∧ x.ok ∧ Sl (kRow ty_impl_Row) h x.rows a0 n0 c0 Q0
  pos := by omega
  len := by rintro _ _ _ _ ⟨a0, n0, c0, Q0, rfl, rfl, hok, s0⟩; rfl
  frame := by
    rintro h h' x c F ⟨a0, n0, c0, Q0, rfl, rfl, hok, s0⟩ hf
    exact ⟨a0, n0, c0, _, rfl, rfl, hok, slFrame s0 fun b hb => hf b hb⟩
  lt := by
    rintro h x c F ⟨a0, n0, c0, Q0, rfl, rfl, hok, s0⟩ b hb
    exact s0.lt b hb
  one := by rintro _ _ _ _ ⟨a0, n0, c0, Q0, rfl, rfl, hok, s0⟩ v hv; simp [HeadD.cells] at hv; rcases hv with rfl | rfl <;> rfl
theorem repHead {t : TypeId} {h : Heap} {x : HeadD} {ci : List Value} (r : Rep (kHead t) h x ci) : ∃ (a0 : Option Addr) (n0 c0 : Nat), ci = x.cells a0 n0 c0 ∧ x.ok ∧ SlR (kRow ty_impl_Row) h x.rows a0 n0 c0 := by
  obtain ⟨F, a0, n0, c0, Q0, hc, hF, hok, s0⟩ := r
  exact ⟨a0, n0, c0, hc, hok, ⟨Q0, s0⟩⟩
theorem SlR.nxHead {t : TypeId} {h : Heap} {xs : List HeadD} {a : Option Addr} {n c i : Nat} {G : Nat → Nat → Prop} (r : SlR (kHead t) h xs a n c) (h1 : i < n)
    (hk : ∀ b o a0 n0 c0, cellAt h b (o + i * 2) = some (.slice a0 n0 c0) → cellAt h b (o + i * 2 + 1) = some (.int .i64 (xs.getD i default).offset) → HeadD.ok (xs.getD i default) → SlR (kRow ty_impl_Row) h (xs.getD i default).rows a0 n0 c0 → (n0 = ((xs.getD i default).rows).length ∧ n0 ≤ c0 ∧ n0 < 281474976710656) → G b o) : ∃ b o, a = some ⟨b, o, none⟩ ∧ (0 : Int) ≤ (i : Int) ∧ (i : Int) < (n : Int) ∧ G b o := by
  refine r.ix (i := (i : Int)) default (by omega) (by omega) fun b o ci hr hv => ?_
  obtain ⟨a0, n0, c0, hc, hok, s0⟩ := repHead hr
  subst hc
  exact hk b o a0 n0 c0 (hv 0 _ rfl) (hv 1 _ rfl) hok s0 s0.len
theorem Own.openHead {t : TypeId} {h : Heap} {L : List Asn} {x : HeadD} {ci : List Value} (H : Own h (elA (kHead t) x ci :: L)) : ∃ (a0 : Option Addr) (n0 c0 : Nat), ci = x.cells a0 n0 c0 ∧ x.ok ∧ Own h (slA (kRow ty_impl_Row) x.rows a0 n0 c0 :: L) := by
  obtain ⟨F, ⟨M, nd, eM, a0, n0, c0, Q0, rfl, rfl, hok, s⟩, w⟩ := H.turn
  exact ⟨a0, n0, c0, rfl, hok, w h (slA (kRow ty_impl_Row) x.rows a0 n0 c0) F ⟨_, nd, eM, s⟩ ⟨Nat.le_refl _, fun _ _ _ => rfl⟩ fun b hb => .inl hb⟩
theorem Own.shutHead {t : TypeId} {h : Heap} {L : List Asn} (x : HeadD) {a0 : Option Addr} {n0 c0 : Nat} (hok : x.ok) (H : Own h (slA (kRow ty_impl_Row) x.rows a0 n0 c0 :: L)) : Own h (elA (kHead t) x (x.cells a0 n0 c0) :: L) := by
  obtain ⟨F, ⟨M, nd, eM, s⟩, w⟩ := H.turn
  exact w h (elA (kHead t) x (x.cells a0 n0 c0)) F ⟨M, nd, eM, a0, n0, c0, M, rfl, rfl, hok, s⟩ ⟨Nat.le_refl _, fun _ _ _ => rfl⟩ fun b hb => .inl hb
end Go.Proofs.Ytjmhahjmbmiepaa.D
