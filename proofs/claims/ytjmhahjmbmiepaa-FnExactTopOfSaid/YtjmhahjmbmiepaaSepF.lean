/- Things found by their names: rows by their block, slices by their header; what is new is put beside what was. -/
import Derived.Test.YtjmhahjmbmiepaaSepO
namespace Go.Proofs.Ytjmhahjmbmiepaa.D
open Go
set_option linter.unusedVariables false
set_option linter.unusedSimpArgs false

class RowIn (b : Nat) (L : List Asn) (e : outParam TypeId) (cs : outParam (List Value)) (R : outParam (List Asn)) : Prop where
  perm : L.Perm (rowA b e cs :: R)
class SlIn (a : Option Addr) (n c : Nat) (L : List Asn) (α : outParam Type) (k : outParam (Kind α)) (xs : outParam (List α)) (R : outParam (List Asn)) : Prop where
  perm : L.Perm (slA k xs a n c :: R)
class SlAny (a : Option Addr) (n : Nat) (L : List Asn) (c : outParam Nat) (α : outParam Type) (k : outParam (Kind α)) (xs : outParam (List α)) (R : outParam (List Asn)) : Prop where
  perm : L.Perm (slA k xs a n c :: R)
class OldIn (h0 : Heap) (L : List Asn) (R : outParam (List Asn)) : Prop where
  perm : L.Perm (oldA h0 :: R)
section
variable {α β : Type} {k : Kind α} {l : Kind β} {h h0 g : Heap} {L R R' T : List Asn} {A B : Asn} {b o : Nat} {e e' : TypeId} {cs cs' : List Value} {xs ys : List α} {a a' : Option Addr} {n c n' c' m : Nat} {P : Prop} {v : Value}

theorem perm_back (p : L.Perm (A :: R)) : (B :: L).Perm (A :: B :: R) := (p.cons B).trans (.swap _ _ _)
instance RowIn.head : RowIn b (rowA b e cs :: L) e cs L := ⟨.refl _⟩
instance (priority := low) RowIn.tail [i : RowIn b L e cs R] : RowIn b (A :: L) e cs (A :: R) := ⟨perm_back i.perm⟩
instance SlIn.head : SlIn a n c (slA k xs a n c :: L) α k xs L := ⟨.refl _⟩
instance (priority := low) SlIn.tail [i : SlIn a n c L α k xs R] : SlIn a n c (A :: L) α k xs (A :: R) := ⟨perm_back i.perm⟩
instance SlAny.head : SlAny a n (slA k xs a n c :: L) c α k xs L := ⟨.refl _⟩
instance (priority := low) SlAny.tail [i : SlAny a n L c α k xs R] : SlAny a n (A :: L) c α k xs (A :: R) := ⟨perm_back i.perm⟩
instance OldIn.head : OldIn h0 (oldA h0 :: L) L := ⟨.refl _⟩
instance (priority := low) OldIn.tail [i : OldIn h0 L R] : OldIn h0 (A :: L) (A :: R) := ⟨perm_back i.perm⟩
end

/-- 'T' is had from 'L' by dropping and reordering. -/
structure Les (L T : List Asn) : Prop where
  sub : ∀ {h F}, OwnF h L F → ∃ G, OwnF h T G ∧ ∀ b, G b → F b
theorem Les.own {L T : List Asn} (l : Les L T) {h : Heap} (H : Own h L) : Own h T := by
  obtain ⟨F, k⟩ := H
  obtain ⟨G, kG, _⟩ := l.sub k
  exact ⟨G, kG⟩
theorem Les.refl (L : List Asn) : Les L L := ⟨fun {h F} k => ⟨F, k, fun _ h => h⟩⟩
theorem Les.trans {L T U : List Asn} (a : Les L T) (b : Les T U) : Les L U := ⟨fun {h F} k => by
  obtain ⟨G, kG, hG⟩ := a.sub k
  obtain ⟨G', kG', hG'⟩ := b.sub kG
  exact ⟨G', kG', fun x hx => hG x (hG' x hx)⟩⟩
theorem Les.perm {L T : List Asn} (p : L.Perm T) : Les L T := ⟨fun {h F} k => ⟨F, k.perm p, fun _ h => h⟩⟩
theorem Les.drop {A : Asn} {L : List Asn} : Les (A :: L) L := ⟨fun {h F} ⟨F1, F2, e, d, ha, k⟩ => ⟨F2, k, fun b hb => (e b).2 (.inr hb)⟩⟩
theorem Les.cons {A : Asn} {L T : List Asn} (l : Les L T) : Les (A :: L) (A :: T) := ⟨fun {h F} ⟨F1, F2, e, d, ha, k⟩ => by
  obtain ⟨G, kG, hG⟩ := l.sub k
  exact ⟨fun b => F1 b ∨ G b, ⟨F1, G, fun _ => Iff.rfl, fun b h1 h2 => d b h1 (hG b h2), ha, kG⟩, fun b hb => hb.elim (fun h => (e b).2 (.inl h)) fun h => (e b).2 (.inr (hG b h))⟩⟩
theorem Les.nil (L : List Asn) : Les L [] := ⟨fun {h F} k => ⟨fun _ => False, fun _ h => h, fun _ h => h.elim⟩⟩

class SubL (L T : List Asn) (P : outParam Prop) : Prop where
  les : P → Les L T
class OldOf (L : List Asn) (h0 : outParam Heap) : Prop where
  mem : oldA h0 ∈ L
class SufL (L T : List Asn) : Prop where
  les : Les L T
section
variable {α β : Type} {k : Kind α} {l : Kind β} {h h0 g h' : Heap} {L R R' T N : List Asn} {A B : Asn} {b o : Nat} {e e' : TypeId} {cs cs' : List Value} {xs ys : List α} {a a' : Option Addr} {n c n' c' m : Nat} {P : Prop} {v : Value}
instance SufL.refl : SufL L L := ⟨.refl L⟩
instance SufL.nil : SufL L [] := ⟨.nil L⟩
instance (priority := low) SufL.tail [i : SufL L T] : SufL (A :: L) T := ⟨Les.drop.trans i.les⟩
instance (priority := low) SubL.suf [i : SufL L T] : SubL L T True := ⟨fun _ => i.les⟩
instance SubL.row [i : RowIn b L e cs R] [j : SubL R T P] : SubL L (rowA b e cs' :: T) (cs = cs' ∧ P) := ⟨fun hp => by
  obtain ⟨rfl, hp⟩ := hp
  exact (Les.perm i.perm).trans (j.les hp).cons⟩
instance SubL.sl [i : SlIn a n c L α k xs R] [j : SubL R T P] : SubL L (slA k ys a n c :: T) (xs = ys ∧ P) := ⟨fun hp => by
  obtain ⟨rfl, hp⟩ := hp
  exact (Les.perm i.perm).trans (j.les hp).cons⟩
instance SubL.old [i : OldIn h0 L R] [j : SubL R T P] : SubL L (oldA h0 :: T) P := ⟨fun hp => (Les.perm i.perm).trans (j.les hp).cons⟩
/-- What is asked for, out of what there is; 'P' are the equations that stay. -/
theorem Own.to (H : Own h L) [i : SubL L T P] (hp : P) : Own h T := (i.les hp).own H

instance OldOf.head : OldOf (oldA h0 :: L) h0 := ⟨m0⟩
instance (priority := low) OldOf.tail [i : OldOf L h0] : OldOf (A :: L) h0 := ⟨.tail _ i.mem⟩
/-- The cells of a row name what is left open. -/
theorem Own.chk (H : Own h L) [i : RowIn b L e cs R] (hc : cs = cs') (hk : Own h (rowA b e cs' :: T)) : Own h (rowA b e cs' :: T) := hk
theorem Own.row' (H : Own h L) (b : Nat) [i : RowIn b L e cs R] : Row h b e cs := (H.perm i.perm).row m0
theorem Own.ld (H : Own h L) [i : RowIn b L e cs R] (hv : cs[o]? = some v) : cellAt h b o = some v := (H.perm i.perm).cell m0 hv
theorem Own.old' (H : Own h L) (h0 : Heap) [i : OldIn h0 L R] : Ext h0 h := (H.perm i.perm).old m0
theorem Own.ldO (H : Own h L) [i : OldOf L h0] (hc : cellAt h0 b o = some v) : cellAt h b o = some v := cell_frm (H.old i.mem) hc (by simp)
theorem Own.oldE (H : Own h L) [i : OldOf L h0] : Ext h0 h := H.old i.mem
theorem Own.st {G : Heap → Prop} (H : Own h L) [i : RowIn b L e cs R] (ho : o < cs.length) (hk : ∀ g, Own g (rowA b e (cs.set o v) :: R) → G g) :
    ∃ (e : TypeId) (c : List Value), Row h b e c ∧ o < c.length ∧ ∀ g, g = putRow h b e (c.set o v) → G g :=
  ⟨e, cs, H.row' b, ho, fun g hg => hk g (hg ▸ (H.perm i.perm).put _)⟩
theorem Own.sts {news : List Value} {G : Heap → Prop} (H : Own h L) [i : RowIn b L e cs R] {q : Nat} (ho : o + q ≤ cs.length) (hk : ∀ g, Own g (rowA b e (splice cs o news) :: R) → G g) :
    ∃ (e : TypeId) (c : List Value), Row h b e c ∧ o + q ≤ c.length ∧ ∀ g, g = putRow h b e (splice c o news) → G g :=
  ⟨e, cs, H.row' b, ho, fun g hg => hk g (hg ▸ (H.perm i.perm).put _)⟩
theorem Own.nw {G : Heap → Prop} (H : Own h L) (hk : ∀ g, Own g (rowA h.size e cs :: L) → G g) : ∀ g, g = newRowH h e cs → G g := fun g hg => hk g (hg ▸ H.new e cs)
theorem Own.front (H : Own h L) (a : Option Addr) (n c : Nat) [i : SlIn a n c L α k xs R] : Own h (slA k xs a n c :: R) := H.perm i.perm
theorem Own.frontR (H : Own h L) (b : Nat) [i : RowIn b L e cs R] : Own h (rowA b e cs :: R) := H.perm i.perm

/-! ### What is only read -/

def SlR (k : Kind α) (h : Heap) (xs : List α) (a : Option Addr) (n c : Nat) : Prop := ∃ F, Sl k h xs a n c F
theorem SlR.ext (r : SlR k h xs a n c) (f : Ext h g) : SlR k g xs a n c := r.imp fun _ s => s.ext f
theorem SlR.len (r : SlR k h xs a n c) : n = xs.length ∧ n ≤ c ∧ n < 281474976710656 := by obtain ⟨F, s⟩ := r; exact ⟨s.1, s.2.1⟩
theorem SlR.nil (k : Kind α) (h : Heap) : SlR k h [] none 0 0 := ⟨_, Sl.nil k h⟩
theorem Own.rd (H : Own h L) (a : Option Addr) (n c : Nat) [i : SlIn a n c L α k xs R] : SlR k h xs a n c := (H.perm i.perm).sl m0
theorem Own.rdA (H : Own h L) (a : Option Addr) (n : Nat) [i : SlAny a n L c α k xs R] : SlR k h xs a n c := (H.perm i.perm).sl m0
theorem Own.ln (H : Own h L) (a : Option Addr) (n c : Nat) [i : SlIn a n c L α k xs R] : n = xs.length ∧ n ≤ c ∧ n < 281474976710656 := (H.rd a n c).len

theorem getD_of {i : Nat} (d : α) (h : i < xs.length) : xs.getD i d = xs[i] := by simp [List.getD, h]
/-- A datum that is only read. -/
def Rep (k : Kind α) (h : Heap) (x : α) (ci : List Value) : Prop := ∃ F, k.rep h x ci F
theorem Rep.ext {x : α} {ci : List Value} (r : Rep k h x ci) (f : Ext h g) : Rep k g x ci := r.imp fun _ s => k.ext s f
theorem SlR.at (r : SlR k h xs a n c) {i : Nat} (hi : i < n) (d : α) : ∃ b o ci, a = some ⟨b, o, none⟩ ∧ Rep k h (xs.getD i d) ci ∧ ∀ j v, ci[j]? = some v → cellAt h b (o + (i * k.size + j)) = some v := by
  obtain ⟨F, s⟩ := r
  have hi' : i < xs.length := by rw [← s.1]; exact hi
  obtain ⟨b, o, ci, Fi, ha, _, hr, _, hc⟩ := s.at hi'
  exact ⟨b, o, ci, ha, ⟨Fi, by rw [getD_of d hi']; exact hr⟩, hc⟩
/-- The index is in range: where the element lies. -/
theorem SlR.ix {i : Int} {G : Nat → Nat → Prop} (r : SlR k h xs a n c) (d : α) (h0 : 0 ≤ i) (h1 : i < (n : Int))
    (hk : ∀ b o ci, Rep k h (xs.getD i.toNat d) ci → (∀ j v, ci[j]? = some v → cellAt h b (o + (i.toNat * k.size + j)) = some v) → G b o) :
    ∃ b o, a = some ⟨b, o, none⟩ ∧ (0 : Int) ≤ i ∧ i < (n : Int) ∧ G b o := by
  obtain ⟨b, o, ci, ha, hr, hc⟩ := r.at (i := i.toNat) (by omega) d
  exact ⟨b, o, ha, h0, h1, hk b o ci hr hc⟩
theorem SlR.ixI {t : TypeId} {xs : List Int} {i : Int} {G : Nat → Nat → Prop} (r : SlR (kInt t) h xs a n c) (h0 : 0 ≤ i) (h1 : i < (n : Int))
    (hk : ∀ b o, cellAt h b (o + i.toNat) = some (.int .i64 (xs.getD i.toNat 0)) → inI64 (xs.getD i.toNat 0) → G b o) :
    ∃ b o, a = some ⟨b, o, none⟩ ∧ (0 : Int) ≤ i ∧ i < (n : Int) ∧ G b o :=
  r.ix 0 h0 h1 fun b o ci ⟨_, hc, _, hr⟩ hv => hk b o (by subst hc; simpa [kInt] using hv 0 _ rfl) hr
theorem SlR.ixB {t : TypeId} {xs : List Bool} {i : Int} {G : Nat → Nat → Prop} (r : SlR (kBool t) h xs a n c) (h0 : 0 ≤ i) (h1 : i < (n : Int))
    (hk : ∀ b o, cellAt h b (o + i.toNat) = some (.bool (xs.getD i.toNat false)) → G b o) :
    ∃ b o, a = some ⟨b, o, none⟩ ∧ (0 : Int) ≤ i ∧ i < (n : Int) ∧ G b o :=
  r.ix false h0 h1 fun b o ci ⟨_, hc, _⟩ hv => hk b o (by subst hc; simpa [kBool] using hv 0 _ rfl)
theorem SlR.ixStr {t : TypeId} {xs : List ByteArray} {i : Int} {G : Nat → Nat → Prop} (r : SlR (kStr t) h xs a n c) (h0 : 0 ≤ i) (h1 : i < (n : Int))
    (hk : ∀ b o, cellAt h b (o + i.toNat) = some (.string (xs.getD i.toNat ByteArray.empty)) → G b o) :
    ∃ b o, a = some ⟨b, o, none⟩ ∧ (0 : Int) ≤ i ∧ i < (n : Int) ∧ G b o :=
  r.ix ByteArray.empty h0 h1 fun b o ci ⟨_, hc, _⟩ hv => hk b o (by subst hc; simpa [kStr] using hv 0 _ rfl)
theorem SlR.ixS {t : TypeId} {xs : List (List α)} {i : Int} {G : Nat → Nat → Prop} (r : SlR (kSl t k) h xs a n c) (h0 : 0 ≤ i) (h1 : i < (n : Int))
    (hk : ∀ b o a' n' c', cellAt h b (o + i.toNat) = some (.slice a' n' c') → SlR k h (xs.getD i.toNat []) a' n' c' → G b o) :
    ∃ b o, a = some ⟨b, o, none⟩ ∧ (0 : Int) ≤ i ∧ i < (n : Int) ∧ G b o :=
  r.ix [] h0 h1 fun b o ci ⟨F, a', n', c', hc, s⟩ hv => hk b o a' n' c' (by subst hc; simpa [kSl] using hv 0 _ rfl) ⟨F, s⟩

theorem SlR.nxI {t : TypeId} {xs : List Int} {i : Nat} {G : Nat → Nat → Prop} (r : SlR (kInt t) h xs a n c) (h1 : i < n)
    (hk : ∀ b o, cellAt h b (o + i) = some (.int .i64 (xs.getD i 0)) → inI64 (xs.getD i 0) → G b o) :
    ∃ b o, a = some ⟨b, o, none⟩ ∧ (0 : Int) ≤ (i : Int) ∧ (i : Int) < (n : Int) ∧ G b o := r.ixI (by omega) (by omega) hk
theorem SlR.nxB {t : TypeId} {xs : List Bool} {i : Nat} {G : Nat → Nat → Prop} (r : SlR (kBool t) h xs a n c) (h1 : i < n)
    (hk : ∀ b o, cellAt h b (o + i) = some (.bool (xs.getD i false)) → G b o) :
    ∃ b o, a = some ⟨b, o, none⟩ ∧ (0 : Int) ≤ (i : Int) ∧ (i : Int) < (n : Int) ∧ G b o := r.ixB (by omega) (by omega) hk
theorem SlR.nxStr {t : TypeId} {xs : List ByteArray} {i : Nat} {G : Nat → Nat → Prop} (r : SlR (kStr t) h xs a n c) (h1 : i < n)
    (hk : ∀ b o, cellAt h b (o + i) = some (.string (xs.getD i ByteArray.empty)) → G b o) :
    ∃ b o, a = some ⟨b, o, none⟩ ∧ (0 : Int) ≤ (i : Int) ∧ (i : Int) < (n : Int) ∧ G b o := r.ixStr (by omega) (by omega) hk
theorem SlR.nxS {t : TypeId} {xs : List (List α)} {i : Nat} {G : Nat → Nat → Prop} (r : SlR (kSl t k) h xs a n c) (h1 : i < n)
    (hk : ∀ b o a' n' c', cellAt h b (o + i) = some (.slice a' n' c') → SlR k h (xs.getD i []) a' n' c' → (n' = (xs.getD i []).length ∧ n' ≤ c' ∧ n' < 281474976710656) → G b o) :
    ∃ b o, a = some ⟨b, o, none⟩ ∧ (0 : Int) ≤ (i : Int) ∧ (i : Int) < (n : Int) ∧ G b o := r.ixS (by omega) (by omega) fun b o a' n' c' hc s => hk b o a' n' c' hc s s.len

/-! ### Own numbers, written -/

theorem Own.ixI {t : TypeId} {xs : List Int} {i : Int} {G : Nat → Nat → Prop} (H : Own h L) [j : SlAny a n L c Int (kInt t) xs R] (h0 : 0 ≤ i) (h1 : i < (n : Int))
    (hk : ∀ b o, cellAt h b (o + i.toNat) = some (.int .i64 (xs.getD i.toNat 0)) → inI64 (xs.getD i.toNat 0) →
      (∃ row, Row h b t row ∧ o + i.toNat < row.length ∧ ∀ y, inI64 y → Own (putRow h b t (row.set (o + i.toNat) (.int .i64 y))) (slA (kInt t) (xs.set i.toNat y) a n c :: R)) → G b o) :
    ∃ b o, a = some ⟨b, o, none⟩ ∧ (0 : Int) ≤ i ∧ i < (n : Int) ∧ G b o := by
  have H := H.perm j.perm
  have hl := (H.len m0).1
  have hi : i.toNat < xs.length := by omega
  obtain ⟨b, o, ha, hc, hr⟩ := H.intAt m0 hi
  obtain ⟨b', o', row, ha', r, hl', st⟩ := H.setInt hi
  rw [ha] at ha'
  injection ha' with ha'
  injection ha' with hb ho _
  subst hb ho
  rw [← getD_of 0 hi] at hc hr
  exact ⟨b, o, ha, h0, h1, hk b o hc hr ⟨row, r, hl', st⟩⟩
theorem Own.ixB {t : TypeId} {xs : List Bool} {i : Int} {G : Nat → Nat → Prop} (H : Own h L) [j : SlAny a n L c Bool (kBool t) xs R] (h0 : 0 ≤ i) (h1 : i < (n : Int))
    (hk : ∀ b o, cellAt h b (o + i.toNat) = some (.bool (xs.getD i.toNat false)) →
      (∃ row, Row h b t row ∧ o + i.toNat < row.length ∧ ∀ y, Own (putRow h b t (row.set (o + i.toNat) (.bool y))) (slA (kBool t) (xs.set i.toNat y) a n c :: R)) → G b o) :
    ∃ b o, a = some ⟨b, o, none⟩ ∧ (0 : Int) ≤ i ∧ i < (n : Int) ∧ G b o := by
  have H := H.perm j.perm
  have hl := (H.len m0).1
  have hi : i.toNat < xs.length := by omega
  obtain ⟨b, o, ha, hc⟩ := H.boolAt m0 hi
  obtain ⟨b', o', row, ha', r, hl', st⟩ := H.setBool hi
  rw [ha] at ha'
  injection ha' with ha'
  injection ha' with hb ho _
  subst hb ho
  rw [← getD_of false hi] at hc
  exact ⟨b, o, ha, h0, h1, hk b o hc ⟨row, r, hl', st⟩⟩

theorem Own.ixStep {t : TypeId} {xs : List StepD} {i : Int} {G : Nat → Nat → Prop} (H : Own h L) [j : SlAny a n L c StepD (kStep t) xs R] (h0 : 0 ≤ i) (h1 : i < (n : Int))
    (hk : ∀ b o, (∃ row, Row h b t row ∧ o + i.toNat * 4 + 4 ≤ row.length ∧ ∀ y : StepD, y.ok → Own (putRow h b t (splice row (o + i.toNat * 4) y.cells)) (slA (kStep t) (xs.set i.toNat y) a n c :: R)) → G b o) :
    ∃ b o, a = some ⟨b, o, none⟩ ∧ (0 : Int) ≤ i ∧ i < (n : Int) ∧ G b o := by
  have H := H.perm j.perm
  have hl := (H.len m0).1
  have hi : i.toNat < xs.length := by omega
  obtain ⟨F, nd, s, w⟩ := H.slTurn
  obtain ⟨b, o, row, ha, hb, r, hl', st⟩ := s.stepSet nd hi
  exact ⟨b, o, ha, h0, h1, hk b o ⟨row, r, hl', fun y hy => w _ _ _ _ _ _ F (Frm.put h _ _ hb) (st y hy) nd fun x hx => .inl hx⟩⟩

/-! ### append -/

theorem Own.ap1 {y : α} {t : TypeId} {sz : Nat} {zs : List Value} {K : Option Addr → Nat → Nat → Heap → Prop} (H : Own h L) [i : SlIn a n c L α k xs R] [j : RowIn b R e cs R'] (hr : k.rep h y cs [])
    (hmax : n + 1 ≤ 1073741824) (hk : ∀ a' c' h', Own h' (slA k (xs ++ [y]) a' (n + 1) c' :: R') → K a' (n + 1) c' h') (hz : zs.length = k.size := by rfl) (ht : k.tid = t := by rfl) (hs : k.size = sz := by rfl) :
    appendH h t sz zs a n c (some ⟨b, 0, none⟩) 1 K := by
  subst ht hs
  have H := (H.perm i.perm).perm (j.perm.cons _)
  exact H.append1 m0 hr hmax hz fun a' c' h' H => hk a' c' h' H.p1.drop
/-- A slice is put behind the slices of a slice. -/
theorem Own.apIn {t0 t : TypeId} {sz : Nat} {zs : List Value} {xss : List (List α)} {R2 : List Asn} {K : Option Addr → Nat → Nat → Heap → Prop} (H : Own h L) [i : SlIn a n c L (List α) (kSl t0 k) xss R]
    [j : RowIn b R e [.slice a' n' c'] R'] [q : SlIn a' n' c' R' α k ys R2]
    (hmax : n + 1 ≤ 1073741824) (hk : ∀ a1 c1 h', Own h' (slA (kSl t0 k) (xss ++ [ys]) a1 (n + 1) c1 :: R2) → K a1 (n + 1) c1 h') (hz : zs.length = 1 := by rfl) (ht : t0 = t := by rfl) (hs : sz = 1 := by rfl) :
    appendH h t sz zs a n c (some ⟨b, 0, none⟩) 1 K := by
  subst ht hs
  have H := (H.perm i.perm).perm (j.perm.cons _)
  have H := H.perm ((q.perm.cons _).cons _)
  exact Own.appendIn (H.perm (((List.Perm.swap _ _ _).cons _))) m0 hmax hz fun a1 c1 h' H => hk a1 c1 h' H.p1.drop
/-- What is only read is put behind. -/
theorem Own.apR {a2 : Option Addr} {m c2 : Nat} {t : TypeId} {sz : Nat} {zs : List Value} {K : Option Addr → Nat → Nat → Heap → Prop} (H : Own h L) [i : SlIn a n c L α k xs R] (src : SlR k h ys a2 m c2) (hf : k.Flat)
    (hmax : n + m ≤ 1073741824) (hk : ∀ a' c' h', Own h' (slA k (xs ++ ys) a' (n + m) c' :: R) → K a' (n + m) c' h') (hz : zs.length = k.size := by rfl) (ht : k.tid = t := by rfl) (hs : k.size = sz := by rfl) :
    appendH h t sz zs a n c a2 m K := by
  subst ht hs
  have H := H.perm i.perm
  obtain ⟨F, hm, hc, hs⟩ := src
  rcases hs with ⟨rfl, rfl, rfl⟩ | ⟨b, pre, cs, post, G, rfl, r, hp, els, rfl⟩
  · have h0 : ys = [] := List.eq_nil_of_length_eq_zero (by omega)
    have hm0 : m = 0 := by omega
    subst h0 hm0
    exact H.appendG (news := []) (ys := []) rfl hmax (fun _ => rfl) ⟨by simp, trivial⟩ ⟨rfl, rfl⟩ hz hk
  · obtain rfl := flatEls hf els
    refine H.appendG hm hmax (fun h => by cases h) ?_ els hz hk
    rw [hm, ← els.len]
    exact cells_mid r

/-! ### Steps of a walk: what the next part of a goal wants -/

theorem ldI {kd : IntKind} {x : Int} {G : Int → Prop} (hc : cellAt h b o = some (.int kd x)) (hk : G x) : ∃ x : Int, cellAt h b o = some (.int kd x) ∧ G x := ⟨x, hc, hk⟩
theorem ldB {x : Bool} {G : Bool → Prop} (hc : cellAt h b o = some (.bool x)) (hk : G x) : ∃ x : Bool, cellAt h b o = some (.bool x) ∧ G x := ⟨x, hc, hk⟩
theorem ldT {x : ByteArray} {G : ByteArray → Prop} (hc : cellAt h b o = some (.string x)) (hk : G x) : ∃ x : ByteArray, cellAt h b o = some (.string x) ∧ G x := ⟨x, hc, hk⟩
theorem ldS {G : Option Addr → Nat → Nat → Prop} (hc : cellAt h b o = some (.slice a n c)) (hk : G a n c) : ∃ (a : Option Addr) (n c : Nat), cellAt h b o = some (.slice a n c) ∧ G a n c := ⟨a, n, c, hc, hk⟩
theorem ldP {G : Option Addr → Prop} (hc : cellAt h b o = some (.pointer a)) (hk : G a) : ∃ a : Option Addr, cellAt h b o = some (.pointer a) ∧ G a := ⟨a, hc, hk⟩
theorem re1 {G : Prop} (hc : cellAt h b o = some v) (hk : G) : cellAt h b o = some v ∧ G := ⟨hc, hk⟩
theorem br {x y : Bool} {s t : Bool} {G G' : Prop} (h1 : x = s → G) (h2 : y = t → G') : (x = s → G) ∧ (y = t → G') := ⟨h1, h2⟩

/-! ### A slice cut at its end; two slices in a row -/

theorem Sl.takeTo {F : List Nat} (s : Sl k h xs a n c F) (hF : F.Nodup) (hm : m ≤ n) : ∃ F', Sl k h (xs.take m) a m c F' ∧ F'.Nodup ∧ ∀ x ∈ F', x ∈ F := by
  obtain ⟨hn, hc, hs⟩ := s
  rcases hs with ⟨rfl, rfl, rfl⟩ | ⟨b, pre, cs, post, G, rfl, r, hp, e, rfl⟩
  · exact ⟨[], ⟨by rw [List.length_take]; omega, by omega, .inl ⟨rfl, rfl, rfl⟩⟩, List.nodup_nil, fun x hx => hx⟩
  · obtain ⟨c1, c2, G1, G2, rfl, rfl, hc1, e1, e2⟩ := e.split m (by omega)
    obtain ⟨hb, hG⟩ := List.nodup_cons.1 hF
    refine ⟨b :: G1, ⟨by rw [List.length_take]; omega, by omega, .inr ⟨b, pre, c1, c2 ++ post, G1, rfl, by simpa using r, ?_, e1, rfl⟩⟩, List.nodup_cons.2 ⟨fun hm => hb (by simp [hm]), (List.nodup_append.1 hG).1⟩, fun x hx => ?_⟩
    · rw [List.length_append, e2.len, List.length_drop]
      have : c - m = (c - n) + (n - m) := by omega
      rw [this, Nat.add_mul, ← hn]
      omega
    · rcases List.mem_cons.1 hx with rfl | hx
      · simp
      · simp [hx]
theorem Own.takeTo (H : Own h (slA k xs a n c :: L)) (hm : m ≤ n) : Own h (slA k (xs.take m) a m c :: L) := by
  obtain ⟨F, nd, s, w⟩ := H.slTurn
  obtain ⟨F', s', nd', hs⟩ := s.takeTo nd hm
  exact w k h _ _ _ _ F' (Frm.refl _ _) s' nd' fun x hx => .inl (hs x hx)
theorem SlR.takeTo (r : SlR k h xs a n c) (hm : m ≤ n) : SlR k h (xs.take m) a m c := by
  obtain ⟨F, hn, hc, hs⟩ := r
  rcases hs with ⟨rfl, rfl, rfl⟩ | ⟨b, pre, cs, post, G, rfl, r, hp, e, rfl⟩
  · exact ⟨[], by rw [List.length_take]; omega, by omega, .inl ⟨rfl, rfl, rfl⟩⟩
  · obtain ⟨c1, c2, G1, G2, rfl, rfl, hc1, e1, e2⟩ := e.split m (by omega)
    refine ⟨b :: G1, by rw [List.length_take]; omega, by omega, .inr ⟨b, pre, c1, c2 ++ post, G1, rfl, by simpa using r, ?_, e1, rfl⟩⟩
    rw [List.length_append, e2.len, List.length_drop]
    have : c - m = (c - n) + (n - m) := by omega
    rw [this, Nat.add_mul, ← hn]
    omega
theorem SlR.two {t : TypeId} (r : Row h b t [.slice a n c, .slice a' n' c']) (r1 : SlR k h xs a n c) (r2 : SlR k h ys a' n' c') : SlR (kSl t k) h [xs, ys] (some ⟨b, 0, none⟩) 2 2 := by
  obtain ⟨F1, s1⟩ := r1
  obtain ⟨F2, s2⟩ := r2
  exact ⟨b :: (F1 ++ (F2 ++ [])), rfl, by omega, .inr ⟨b, [], [.slice a n c] ++ ([.slice a' n' c'] ++ []), [], F1 ++ (F2 ++ []), rfl, by simpa [kSl] using r, by simp, ⟨_, _, _, _, rfl, rfl, s1.rep t, _, _, _, _, rfl, rfl, s2.rep t, rfl, rfl⟩, rfl⟩⟩

/-! ### What a call made is put beside what was there -/

theorem OwnF.lift {F : Foot} {FL : Foot} (kL : OwnF h L FL) : ∀ {N : List Asn} {F : Foot}, OwnF h' (N ++ [oldA h]) F → ∃ F', OwnF h' (N ++ L) F' ∧ ∀ b, F' b → F b
  | [], F, ⟨F1, F2, e, d, ⟨hs, hf, he⟩, k⟩ => ⟨FL, kL.frame fun b hb => he b (kL.lt b hb), fun b hb => (e b).2 (.inl ((hf b).2 (kL.lt b hb)))⟩
  | A :: N, F, ⟨F1, F2, e, d, ha, k⟩ => by
    obtain ⟨F', k', hF'⟩ := OwnF.lift (F := F) kL k
    exact ⟨fun b => F1 b ∨ F' b, ⟨F1, F', fun _ => Iff.rfl, fun b h1 h2 => d b h1 (hF' b h2), ha, k'⟩, fun b hb => hb.elim (fun h => (e b).2 (.inl h)) fun h => (e b).2 (.inr (hF' b h))⟩
theorem Own.lift (H : Own h L) (H' : Own h' (N ++ [oldA h])) : Own h' (N ++ L) := by
  obtain ⟨FL, kL⟩ := H
  obtain ⟨F, kF⟩ := H'
  obtain ⟨F', k, _⟩ := OwnF.lift (F := F) kL kF
  exact ⟨F', k⟩
theorem Own.lift1 (H : Own h L) (H' : Own h' [A, oldA h]) : Own h' (A :: L) := H.lift (N := [A]) H'
theorem Own.lift2 (H : Own h L) (H' : Own h' [A, B, oldA h]) : Own h' (A :: B :: L) := H.lift (N := [A, B]) H'
theorem Own.lift3 {C : Asn} (H : Own h L) (H' : Own h' [A, B, C, oldA h]) : Own h' (A :: B :: C :: L) := H.lift (N := [A, B, C]) H'
theorem Own.lift5 {C D E : Asn} (H : Own h L) (H' : Own h' [A, B, C, D, E, oldA h]) : Own h' (A :: B :: C :: D :: E :: L) := H.lift (N := [A, B, C, D, E]) H'
theorem Own.extOf (H : Own h' L) [i : OldIn h L R] : Ext h h' := H.old' h
end
end Go.Proofs.Ytjmhahjmbmiepaa.D
