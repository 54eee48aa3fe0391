/- Assertions about memory that share nothing. -/
import Derived.Test.YtjmhahjmbmiepaaRepD
namespace Go.Proofs.Ytjmhahjmbmiepaa.D
open Go
set_option linter.unusedVariables false
set_option linter.unusedSimpArgs false

abbrev Foot := Nat → Prop
/-- What stands in which blocks. -/
structure Asn where
  holds : Heap → Foot → Prop
  frame : ∀ {h h' F}, holds h F → (∀ b, F b → h'[b]? = h[b]?) → holds h' F
  lt : ∀ {h F}, holds h F → ∀ b, F b → b < h.size

def OwnF (h : Heap) : List Asn → Foot → Prop
  | [], F => ∀ b, ¬ F b
  | A :: L, F => ∃ F1 F2, (∀ b, F b ↔ (F1 b ∨ F2 b)) ∧ (∀ b, F1 b → ¬ F2 b) ∧ A.holds h F1 ∧ OwnF h L F2
def Own (h : Heap) (L : List Asn) : Prop := ∃ F, OwnF h L F

theorem OwnF.iff {h : Heap} {L : List Asn} {F G : Foot} (k : OwnF h L F) (e : ∀ b, F b ↔ G b) : OwnF h L G := by
  have : F = G := funext fun b => propext (e b)
  exact this ▸ k
theorem OwnF.frame {h h' : Heap} : ∀ {L : List Asn} {F : Foot}, OwnF h L F → (∀ b, F b → h'[b]? = h[b]?) → OwnF h' L F
  | [], F, k, _ => k
  | A :: L, F, ⟨F1, F2, e, d, a, k⟩, f => ⟨F1, F2, e, d, A.frame a fun b hb => f b ((e b).2 (.inl hb)), k.frame fun b hb => f b ((e b).2 (.inr hb))⟩
theorem OwnF.lt {h : Heap} : ∀ {L : List Asn} {F : Foot}, OwnF h L F → ∀ b, F b → b < h.size
  | [], F, k, b, hb => absurd hb (k b)
  | A :: L, F, ⟨F1, F2, e, d, a, k⟩, b, hb => ((e b).1 hb).elim (A.lt a b) (k.lt b)
theorem OwnF.perm {h : Heap} {L L' : List Asn} (p : L.Perm L') : ∀ {F : Foot}, OwnF h L F → OwnF h L' F := by
  induction p with
  | nil => exact fun k => k
  | cons A _ ih => rintro F ⟨F1, F2, e, d, a, k⟩; exact ⟨F1, F2, e, d, a, ih k⟩
  | swap A B L =>
    rintro F ⟨F1, F2, e, d, a, G1, G2, e', d', a', k⟩
    refine ⟨G1, fun b => F1 b ∨ G2 b, fun b => ?_, fun b h1 h2 => ?_, a', F1, G2, fun b => Iff.rfl, fun b h1 h2 => ?_, a, k⟩
    · rw [e b, e' b]
      constructor
      · rintro (h | h | h)
        · exact .inr (.inl h)
        · exact .inl h
        · exact .inr (.inr h)
      · rintro (h | h | h)
        · exact .inr (.inl h)
        · exact .inl h
        · exact .inr (.inr h)
    · rcases h2 with h2 | h2
      · exact d b h2 ((e' b).2 (.inl h1))
      · exact d' b h1 h2
    · exact d b h1 ((e' b).2 (.inr h2))
  | trans _ _ ih1 ih2 => exact fun k => ih2 (ih1 k)
theorem Own.perm {h : Heap} {L L' : List Asn} (H : Own h L) (p : L.Perm L') : Own h L' := by
  obtain ⟨F, k⟩ := H
  exact ⟨F, k.perm p⟩
theorem Own.drop {h : Heap} {A : Asn} {L : List Asn} (H : Own h (A :: L)) : Own h L := by
  obtain ⟨F, F1, F2, e, d, a, k⟩ := H
  exact ⟨F2, k⟩
theorem Own.nil (h : Heap) : Own h [] := ⟨fun _ => False, fun _ h => h⟩
theorem Own.get {h : Heap} {A : Asn} : ∀ {L : List Asn}, Own h L → A ∈ L → ∃ F, A.holds h F
  | B :: L, ⟨F, F1, F2, e, d, a, k⟩, hm => by
    rcases List.mem_cons.1 hm with rfl | hm
    · exact ⟨F1, a⟩
    · exact Own.get ⟨F2, k⟩ hm

def FrmS (F : Foot) (h h' : Heap) : Prop := h.size ≤ h'.size ∧ ∀ b, b < h.size → ¬ F b → h'[b]? = h[b]?
theorem Frm.toS {S : List Nat} {F : Foot} {h h' : Heap} (f : Frm S h h') (hs : ∀ b, b ∈ S → F b) : FrmS F h h' := ⟨f.1, fun b hb hn => f.2 b hb fun hm => hn (hs b hm)⟩
/-- The head is turned into something else, in its own blocks or in new ones. -/
theorem Own.turn {h : Heap} {A : Asn} {L : List Asn} (H : Own h (A :: L)) :
    ∃ F, A.holds h F ∧ ∀ (h' : Heap) (B : Asn) (G : Foot), B.holds h' G → FrmS F h h' → (∀ b, G b → F b ∨ h.size ≤ b) → Own h' (B :: L) := by
  obtain ⟨F, F1, F2, e, d, a, k⟩ := H
  refine ⟨F1, a, fun h' B G b f hg => ⟨fun b => G b ∨ F2 b, G, F2, fun b => Iff.rfl, fun x hx h2 => ?_, b, k.frame fun x hx => f.2 x (k.lt x hx) fun h1 => d x h1 hx⟩⟩
  rcases hg x hx with hg | hg
  · exact d x hg h2
  · have := k.lt x h2; omega
/-- What is new. -/
theorem Own.add {h h' : Heap} {B : Asn} {G : Foot} {L : List Asn} (H : Own h L) (f : Ext h h') (b : B.holds h' G) (hg : ∀ b, G b → h.size ≤ b) : Own h' (B :: L) := by
  obtain ⟨F, k⟩ := H
  refine ⟨fun b => G b ∨ F b, G, F, fun b => Iff.rfl, fun x hx h2 => ?_, b, k.frame fun x hx => f.2 x (k.lt x hx) (by simp)⟩
  have := k.lt x h2
  have := hg x hx
  omega
theorem Own.ext {h h' : Heap} {L : List Asn} (H : Own h L) (f : Ext h h') : Own h' L := by
  obtain ⟨F, k⟩ := H
  exact ⟨F, k.frame fun x hx => f.2 x (k.lt x hx) (by simp)⟩

/-- Two in one. -/
def Asn.both (A B : Asn) : Asn where
  holds := fun h F => ∃ F1 F2, (∀ b, F b ↔ (F1 b ∨ F2 b)) ∧ (∀ b, F1 b → ¬ F2 b) ∧ A.holds h F1 ∧ B.holds h F2
  frame := by
    rintro h h' F ⟨F1, F2, e, d, a, b⟩ f
    exact ⟨F1, F2, e, d, A.frame a fun x hx => f x ((e x).2 (.inl hx)), B.frame b fun x hx => f x ((e x).2 (.inr hx))⟩
  lt := by
    rintro h F ⟨F1, F2, e, d, a, b⟩ x hx
    exact ((e x).1 hx).elim (A.lt a x) (B.lt b x)
theorem Own.join {h : Heap} {A B : Asn} {L : List Asn} (H : Own h (A :: B :: L)) : Own h (A.both B :: L) := by
  obtain ⟨F, F1, F2, e, d, a, G1, G2, e', d', b, k⟩ := H
  refine ⟨F, fun x => F1 x ∨ G1 x, G2, fun x => by rw [e x, e' x, or_assoc], fun x hx h2 => ?_, ⟨F1, G1, fun x => Iff.rfl, fun x h1 h2 => d x h1 ((e' x).2 (.inl h2)), a, b⟩, k⟩
  rcases hx with hx | hx
  · exact d x hx ((e' x).2 (.inr h2))
  · exact d' x hx h2
theorem Own.part {h : Heap} {A B : Asn} {L : List Asn} (H : Own h (A.both B :: L)) : Own h (A :: B :: L) := by
  obtain ⟨F, F1, F2, e, d, ⟨G1, G2, e', d', a, b⟩, k⟩ := H
  refine ⟨F, G1, fun x => G2 x ∨ F2 x, fun x => by rw [e x, e' x, or_assoc], fun x hx h2 => ?_, a, G2, F2, fun x => Iff.rfl, fun x h1 h2 => d x ((e' x).2 (.inr h1)) h2, b, k⟩
  rcases h2 with h2 | h2
  · exact d' x hx h2
  · exact d x ((e' x).2 (.inl hx)) h2

/-! ### Rows -/

def rowA (b : Nat) (e : TypeId) (c : List Value) : Asn where
  holds := fun h F => Row h b e c ∧ ∀ x, F x ↔ x = b
  frame := fun {_ _ F} ⟨r, e⟩ f => ⟨(f b ((e b).2 rfl)).trans r, e⟩
  lt := fun {_ F} ⟨r, e⟩ x hx => (e x).1 hx ▸ row_lt r

theorem m0 {A : Asn} {L : List Asn} : A ∈ A :: L := .head _
theorem m1 {A0 A : Asn} {L : List Asn} : A ∈ A0 :: A :: L := .tail _ m0
theorem m2 {A0 A1 A : Asn} {L : List Asn} : A ∈ A0 :: A1 :: A :: L := .tail _ m1
theorem m3 {A0 A1 A2 A : Asn} {L : List Asn} : A ∈ A0 :: A1 :: A2 :: A :: L := .tail _ m2
theorem m4 {A0 A1 A2 A3 A : Asn} {L : List Asn} : A ∈ A0 :: A1 :: A2 :: A3 :: A :: L := .tail _ m3
theorem m5 {A0 A1 A2 A3 A4 A : Asn} {L : List Asn} : A ∈ A0 :: A1 :: A2 :: A3 :: A4 :: A :: L := .tail _ m4
theorem m6 {A0 A1 A2 A3 A4 A5 A : Asn} {L : List Asn} : A ∈ A0 :: A1 :: A2 :: A3 :: A4 :: A5 :: A :: L := .tail _ m5
theorem m7 {A0 A1 A2 A3 A4 A5 A6 A : Asn} {L : List Asn} : A ∈ A0 :: A1 :: A2 :: A3 :: A4 :: A5 :: A6 :: A :: L := .tail _ m6
theorem m8 {A0 A1 A2 A3 A4 A5 A6 A7 A : Asn} {L : List Asn} : A ∈ A0 :: A1 :: A2 :: A3 :: A4 :: A5 :: A6 :: A7 :: A :: L := .tail _ m7
theorem m9 {A0 A1 A2 A3 A4 A5 A6 A7 A8 A : Asn} {L : List Asn} : A ∈ A0 :: A1 :: A2 :: A3 :: A4 :: A5 :: A6 :: A7 :: A8 :: A :: L := .tail _ m8

section
variable {h : Heap} {L : List Asn} {A0 A1 A2 A3 A4 A5 A6 A7 A8 A9 : Asn}
theorem Own.p1 (H : Own h (A0 :: A1 :: L)) : Own h (A1 :: A0 :: L) := H.perm (.swap _ _ _)
theorem Own.p2 (H : Own h (A0 :: A1 :: A2 :: L)) : Own h (A2 :: A0 :: A1 :: L) := H.perm ((List.Perm.cons _ (.swap _ _ _)).trans (.swap _ _ _))
theorem Own.p3 (H : Own h (A0 :: A1 :: A2 :: A3 :: L)) : Own h (A3 :: A0 :: A1 :: A2 :: L) := H.perm ((List.Perm.cons _ ((List.Perm.cons _ (.swap _ _ _)).trans (.swap _ _ _))).trans (.swap _ _ _))
theorem Own.p4 (H : Own h (A0 :: A1 :: A2 :: A3 :: A4 :: L)) : Own h (A4 :: A0 :: A1 :: A2 :: A3 :: L) :=
  H.perm ((List.Perm.cons _ ((List.Perm.cons _ ((List.Perm.cons _ (.swap _ _ _)).trans (.swap _ _ _))).trans (.swap _ _ _))).trans (.swap _ _ _))
theorem pullP {A : Asn} : ∀ {L1 L2 : List Asn}, (L1 ++ A :: L2).Perm (A :: (L1 ++ L2)) := List.perm_middle
theorem Own.p5 (H : Own h (A0 :: A1 :: A2 :: A3 :: A4 :: A5 :: L)) : Own h (A5 :: A0 :: A1 :: A2 :: A3 :: A4 :: L) := H.perm (pullP (L1 := [A0, A1, A2, A3, A4]))
theorem Own.p6 (H : Own h (A0 :: A1 :: A2 :: A3 :: A4 :: A5 :: A6 :: L)) : Own h (A6 :: A0 :: A1 :: A2 :: A3 :: A4 :: A5 :: L) := H.perm (pullP (L1 := [A0, A1, A2, A3, A4, A5]))
theorem Own.p7 (H : Own h (A0 :: A1 :: A2 :: A3 :: A4 :: A5 :: A6 :: A7 :: L)) : Own h (A7 :: A0 :: A1 :: A2 :: A3 :: A4 :: A5 :: A6 :: L) := H.perm (pullP (L1 := [A0, A1, A2, A3, A4, A5, A6]))
theorem Own.p8 (H : Own h (A0 :: A1 :: A2 :: A3 :: A4 :: A5 :: A6 :: A7 :: A8 :: L)) : Own h (A8 :: A0 :: A1 :: A2 :: A3 :: A4 :: A5 :: A6 :: A7 :: L) := H.perm (pullP (L1 := [A0, A1, A2, A3, A4, A5, A6, A7]))
theorem Own.p9 (H : Own h (A0 :: A1 :: A2 :: A3 :: A4 :: A5 :: A6 :: A7 :: A8 :: A9 :: L)) : Own h (A9 :: A0 :: A1 :: A2 :: A3 :: A4 :: A5 :: A6 :: A7 :: A8 :: L) := H.perm (pullP (L1 := [A0, A1, A2, A3, A4, A5, A6, A7, A8]))

theorem Own.q1 (H : Own h (A0 :: A1 :: L)) : Own h (A1 :: A0 :: L) := H.perm (pullP (A := A0) (L1 := [A1])).symm
theorem Own.q2 (H : Own h (A0 :: A1 :: A2 :: L)) : Own h (A1 :: A2 :: A0 :: L) := H.perm (pullP (A := A0) (L1 := [A1, A2])).symm
theorem Own.q3 (H : Own h (A0 :: A1 :: A2 :: A3 :: L)) : Own h (A1 :: A2 :: A3 :: A0 :: L) := H.perm (pullP (A := A0) (L1 := [A1, A2, A3])).symm
theorem Own.q4 (H : Own h (A0 :: A1 :: A2 :: A3 :: A4 :: L)) : Own h (A1 :: A2 :: A3 :: A4 :: A0 :: L) := H.perm (pullP (A := A0) (L1 := [A1, A2, A3, A4])).symm
theorem Own.q5 (H : Own h (A0 :: A1 :: A2 :: A3 :: A4 :: A5 :: L)) : Own h (A1 :: A2 :: A3 :: A4 :: A5 :: A0 :: L) := H.perm (pullP (A := A0) (L1 := [A1, A2, A3, A4, A5])).symm
theorem Own.q6 (H : Own h (A0 :: A1 :: A2 :: A3 :: A4 :: A5 :: A6 :: L)) : Own h (A1 :: A2 :: A3 :: A4 :: A5 :: A6 :: A0 :: L) := H.perm (pullP (A := A0) (L1 := [A1, A2, A3, A4, A5, A6])).symm
theorem Own.q7 (H : Own h (A0 :: A1 :: A2 :: A3 :: A4 :: A5 :: A6 :: A7 :: L)) : Own h (A1 :: A2 :: A3 :: A4 :: A5 :: A6 :: A7 :: A0 :: L) := H.perm (pullP (A := A0) (L1 := [A1, A2, A3, A4, A5, A6, A7])).symm
theorem Own.q8 (H : Own h (A0 :: A1 :: A2 :: A3 :: A4 :: A5 :: A6 :: A7 :: A8 :: L)) : Own h (A1 :: A2 :: A3 :: A4 :: A5 :: A6 :: A7 :: A8 :: A0 :: L) := H.perm (pullP (A := A0) (L1 := [A1, A2, A3, A4, A5, A6, A7, A8])).symm
theorem Own.q9 (H : Own h (A0 :: A1 :: A2 :: A3 :: A4 :: A5 :: A6 :: A7 :: A8 :: A9 :: L)) : Own h (A1 :: A2 :: A3 :: A4 :: A5 :: A6 :: A7 :: A8 :: A9 :: A0 :: L) := H.perm (pullP (A := A0) (L1 := [A1, A2, A3, A4, A5, A6, A7, A8, A9])).symm

theorem Own.new (H : Own h L) (e : TypeId) (c : List Value) : Own (newRowH h e c) (rowA h.size e c :: L) :=
  H.add (G := fun x => x = h.size) (Frm.new _ _ _ _) ⟨Row.new h e c, fun _ => Iff.rfl⟩ fun b hb => by omega
theorem Own.row {b : Nat} {e : TypeId} {c : List Value} (H : Own h L) (hm : rowA b e c ∈ L) : Row h b e c := by
  obtain ⟨_, r, _⟩ := H.get hm
  exact r
theorem Own.cell {b o : Nat} {e : TypeId} {c : List Value} {v : Value} (H : Own h L) (hm : rowA b e c ∈ L) (hv : c[o]? = some v) : cellAt h b o = some v := (H.row hm).at hv
theorem Own.put {b : Nat} {e : TypeId} {c : List Value} (H : Own h (rowA b e c :: L)) (c' : List Value) : Own (putRow h b e c') (rowA b e c' :: L) := by
  obtain ⟨F, ⟨r, hf⟩, w⟩ := H.turn
  exact w _ _ F ⟨Row.put h e c' (row_lt r), hf⟩ ((Frm.put (S := [b]) h e c' (by simp)).toS fun x hx => (hf x).2 (by simpa using hx)) fun b hb => .inl hb

/-! ### Slices -/

def slA {α : Type} (k : Kind α) (xs : List α) (a : Option Addr) (n c : Nat) : Asn where
  holds := fun h F => ∃ M : List Nat, M.Nodup ∧ (∀ b, F b ↔ b ∈ M) ∧ Sl k h xs a n c M
  frame := by
    rintro h h' F ⟨M, nd, e, s⟩ f
    refine ⟨M, nd, e, ?_⟩
    have := (kSl 0 k).frame (s.rep 0) fun b hb => f b ((e b).2 hb)
    obtain ⟨a', n', c', he, s'⟩ := this
    simp at he
    obtain ⟨rfl, rfl, rfl⟩ := he
    exact s'
  lt := by
    rintro h F ⟨M, nd, e, s⟩ b hb
    exact s.lt b ((e b).1 hb)

variable {α : Type} {k : Kind α} {xs ys : List α} {a a' : Option Addr} {n c n' c' : Nat}
theorem Own.sl (H : Own h L) (hm : slA k xs a n c ∈ L) : ∃ F, Sl k h xs a n c F := by
  obtain ⟨_, M, _, _, s⟩ := H.get hm
  exact ⟨M, s⟩
/-- A contract of the old form: the head is a slice. -/
theorem Own.slTurn (H : Own h (slA k xs a n c :: L)) : ∃ F, F.Nodup ∧ Sl k h xs a n c F ∧
    (∀ {β : Type} (k' : Kind β) (h' : Heap) (ys : List β) (a' : Option Addr) (n' c' : Nat) (G : List Nat), Frm F h h' → Sl k' h' ys a' n' c' G → G.Nodup → (∀ x ∈ G, x ∈ F ∨ h.size ≤ x) → Own h' (slA k' ys a' n' c' :: L)) := by
  obtain ⟨F, ⟨M, nd, e, s⟩, w⟩ := H.turn
  refine ⟨M, nd, s, fun k' h' ys a' n' c' G f s' nd' hs => ?_⟩
  exact w h' (slA k' ys a' n' c') (fun b => b ∈ G) ⟨G, nd', fun b => Iff.rfl, s'⟩ (f.toS fun b hb => (e b).2 hb) fun b hb => (hs b hb).imp (e b).2 id
theorem Own.slNew (H : Own h L) {h' : Heap} (f : Ext h h') {F : List Nat} (s : Sl k h' xs a n c F) (fr : Fresh h F) : Own h' (slA k xs a n c :: L) :=
  H.add (G := fun b => b ∈ F) f ⟨F, fr.1, fun _ => Iff.rfl, s⟩ fr.2
theorem Own.slNil (H : Own h L) (k : Kind α) : Own h (slA k [] none 0 0 :: L) := H.slNew (Frm.refl _ _) (Sl.nil k h) (Fresh.nil h)
theorem Own.len (H : Own h L) (hm : slA k xs a n c ∈ L) : n = xs.length ∧ n ≤ c ∧ n < 281474976710656 := by
  obtain ⟨F, s⟩ := H.sl hm
  exact ⟨s.1, s.2.1⟩

theorem Own.intAt {t : TypeId} {xs : List Int} (H : Own h L) (hm : slA (kInt t) xs a n c ∈ L) {i : Nat} (hi : i < xs.length) :
    ∃ b o, a = some ⟨b, o, none⟩ ∧ cellAt h b (o + i) = some (.int .i64 xs[i]) ∧ inI64 xs[i] := by
  obtain ⟨F, s⟩ := H.sl hm
  exact s.intAt hi
theorem Own.boolAt {t : TypeId} {xs : List Bool} (H : Own h L) (hm : slA (kBool t) xs a n c ∈ L) {i : Nat} (hi : i < xs.length) :
    ∃ b o, a = some ⟨b, o, none⟩ ∧ cellAt h b (o + i) = some (.bool xs[i]) := by
  obtain ⟨F, s⟩ := H.sl hm
  exact s.boolAt hi
theorem Own.stepAt {t : TypeId} {xs : List StepD} (H : Own h L) (hm : slA (kStep t) xs a n c ∈ L) {i : Nat} (hi : i < xs.length) :
    ∃ b o, a = some ⟨b, o, none⟩ ∧ cellAt h b (o + i * 4) = some (.int .i64 xs[i].kind) ∧ cellAt h b (o + i * 4 + 1) = some (.int .i64 xs[i].from_) ∧
      cellAt h b (o + i * 4 + 2) = some (.int .i64 xs[i].to) ∧ cellAt h b (o + i * 4 + 3) = some (.int .i64 xs[i].many) ∧ xs[i].ok := by
  obtain ⟨F, s⟩ := H.sl hm
  exact s.stepAt hi
theorem Own.setInt {t : TypeId} {xs : List Int} (H : Own h (slA (kInt t) xs a n c :: L)) {i : Nat} (hi : i < xs.length) :
    ∃ b o row, a = some ⟨b, o, none⟩ ∧ Row h b t row ∧ o + i < row.length ∧ ∀ y, inI64 y → Own (putRow h b t (row.set (o + i) (.int .i64 y))) (slA (kInt t) (xs.set i y) a n c :: L) := by
  obtain ⟨F, nd, s, w⟩ := H.slTurn
  obtain ⟨b, o, row, ha, hb, r, hl, hs⟩ := s.setInt nd hi
  exact ⟨b, o, row, ha, r, hl, fun y hy => w _ _ _ _ _ _ F (Frm.put h _ _ hb) (hs y hy) nd fun x hx => .inl hx⟩
theorem Own.setBool {t : TypeId} {xs : List Bool} (H : Own h (slA (kBool t) xs a n c :: L)) {i : Nat} (hi : i < xs.length) :
    ∃ b o row, a = some ⟨b, o, none⟩ ∧ Row h b t row ∧ o + i < row.length ∧ ∀ y, Own (putRow h b t (row.set (o + i) (.bool y))) (slA (kBool t) (xs.set i y) a n c :: L) := by
  obtain ⟨F, nd, s, w⟩ := H.slTurn
  obtain ⟨b, o, row, ha, hb, r, hl, hs⟩ := s.setBool nd hi
  exact ⟨b, o, row, ha, r, hl, fun y => w _ _ _ _ _ _ F (Frm.put h _ _ hb) (hs y) nd fun x hx => .inl hx⟩
end
end Go.Proofs.Ytjmhahjmbmiepaa.D
