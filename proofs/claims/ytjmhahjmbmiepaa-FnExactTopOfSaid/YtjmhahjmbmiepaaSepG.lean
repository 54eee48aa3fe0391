/- Slices opened to their cells; a part of a row; one element taken out; an element put in. -/
import Derived.Test.YtjmhahjmbmiepaaSepF
namespace Go.Proofs.Ytjmhahjmbmiepaa.D
open Go
set_option linter.unusedVariables false
set_option linter.unusedSimpArgs false

/-- Cells in the middle of a row. -/
def midA (b o : Nat) (e : TypeId) (pre cs post : List Value) : Asn where
  holds := fun h F => (Row h b e (pre ++ cs ++ post) ∧ o = pre.length) ∧ ∀ x, F x ↔ x = b
  frame := fun {_ _ F} ⟨⟨r, ho⟩, e⟩ f => ⟨⟨(f b ((e b).2 rfl)).trans r, ho⟩, e⟩
  lt := fun {_ F} ⟨⟨r, _⟩, e⟩ x hx => (e x).1 hx ▸ row_lt r
class MidIn (b o : Nat) (L : List Asn) (e : outParam TypeId) (pre cs post : outParam (List Value)) (R : outParam (List Asn)) : Prop where
  perm : L.Perm (midA b o e pre cs post :: R)
class MidAt (b : Nat) (L : List Asn) (o : outParam Nat) (e : outParam TypeId) (pre cs post : outParam (List Value)) (R : outParam (List Asn)) : Prop where
  perm : L.Perm (midA b o e pre cs post :: R)
/-- The blocks of elements. -/
def elsA {α : Type} (k : Kind α) (xs : List α) (cs : List Value) : Asn where
  holds := fun h F => ∃ M : List Nat, M.Nodup ∧ (∀ b, F b ↔ b ∈ M) ∧ Els k h xs cs M
  frame := by
    rintro h h' F ⟨M, nd, e, s⟩ f
    exact ⟨M, nd, e, s.frame fun b hb => f b ((e b).2 hb)⟩
  lt := by
    rintro h F ⟨M, nd, e, s⟩ b hb
    exact s.lt b ((e b).1 hb)

section
variable {α β : Type} {k : Kind α} {h g : Heap} {L R T : List Asn} {A : Asn} {b o : Nat} {e e' : TypeId} {pre cs cs' post c1 c2 : List Value} {xs ys : List α} {a a' : Option Addr} {n c n' c' m : Nat} {P : Prop} {v : Value} {y : α} {F : List Nat}

theorem slFrame (s : Sl k h xs a n c F) {h' : Heap} (hf : ∀ b ∈ F, h'[b]? = h[b]?) : Sl k h' xs a n c F := by
  obtain ⟨a', n', c', he, s'⟩ := (kSl 0 k).frame (s.rep 0) hf
  simp at he
  obtain ⟨rfl, rfl, rfl⟩ := he
  exact s'
instance MidIn.head : MidIn b o (midA b o e pre cs post :: L) e pre cs post L := ⟨.refl _⟩
instance (priority := low) MidIn.tail [i : MidIn b o L e pre cs post R] : MidIn b o (A :: L) e pre cs post (A :: R) := ⟨perm_back i.perm⟩
instance MidAt.head : MidAt b (midA b o e pre cs post :: L) o e pre cs post L := ⟨.refl _⟩
instance (priority := low) MidAt.tail [i : MidAt b L o e pre cs post R] : MidAt b (A :: L) o e pre cs post (A :: R) := ⟨perm_back i.perm⟩
instance SubL.mid {pre' post' : List Value} [i : MidIn b o L e pre cs post R] [j : SubL R T P] : SubL L (midA b o e pre' cs' post' :: T) (cs = cs' ∧ pre = pre' ∧ post = post' ∧ P) := ⟨fun hp => by
  obtain ⟨rfl, rfl, rfl, hp⟩ := hp
  exact (Les.perm i.perm).trans (j.les hp).cons⟩
class ElIn (ci : List Value) (L : List Asn) (α : outParam Type) (k : outParam (Kind α)) (x : outParam α) (R : outParam (List Asn)) : Prop where
  perm : L.Perm (elA k x ci :: R)
instance ElIn.head {x : α} : ElIn cs (elA k x cs :: L) α k x L := ⟨.refl _⟩
instance (priority := low) ElIn.tail {x : α} [i : ElIn cs L α k x R] : ElIn cs (A :: L) α k x (A :: R) := ⟨perm_back i.perm⟩

theorem Own.midOpen (H : Own h (midA b o e pre cs post :: L)) : o = pre.length ∧ Own h (rowA b e (pre ++ cs ++ post) :: L) := by
  obtain ⟨F, F1, F2, e', d, ⟨⟨r, ho⟩, hf⟩, k⟩ := H
  exact ⟨ho, F, F1, F2, e', d, ⟨r, hf⟩, k⟩
theorem Own.midShut (ho : o = pre.length) (H : Own h (rowA b e (pre ++ cs ++ post) :: L)) : Own h (midA b o e pre cs post :: L) := by
  obtain ⟨F, F1, F2, e', d, ⟨r, hf⟩, k⟩ := H
  exact ⟨F, F1, F2, e', d, ⟨⟨r, ho⟩, hf⟩, k⟩
theorem Own.toMid (H : Own h (rowA b e cs :: L)) : Own h (midA b 0 e [] cs [] :: L) := Own.midShut rfl (by simpa using H)
theorem Own.ofMid (H : Own h (midA b 0 e [] cs [] :: L)) : Own h (rowA b e cs :: L) := by simpa using H.midOpen.2
theorem mid_get {j : Nat} (hv : cs[j]? = some v) : (pre ++ cs ++ post)[pre.length + j]? = some v := by
  have hj : j < cs.length := by
    rcases Nat.lt_or_ge j cs.length with hh | hh
    · exact hh
    · rw [List.getElem?_eq_none hh] at hv; cases hv
  rw [List.append_assoc, List.getElem?_append_right (by omega), show pre.length + j - pre.length = j from by omega, List.getElem?_append_left hj]
  exact hv
theorem Own.ldM {j : Nat} (H : Own h L) [i : MidIn b o L e pre cs post R] (hv : cs[j]? = some v) : cellAt h b (o + j) = some v := by
  obtain ⟨rfl, H⟩ := (H.perm i.perm).midOpen
  rw [(H.row m0).cell]
  exact mid_get hv
theorem Own.ldM0 (H : Own h L) [i : MidIn b o L e pre cs post R] (hv : cs[0]? = some v) : cellAt h b o = some v := H.ldM hv
theorem mid_set {j : Nat} (hj : j < cs.length) : (pre ++ cs ++ post).set (pre.length + j) v = pre ++ cs.set j v ++ post := by
  rw [List.append_assoc, List.set_append_right _ _ (by omega), show pre.length + j - pre.length = j from by omega, List.set_append_left _ _ hj, List.append_assoc]
theorem Own.stM {j : Nat} {G : Heap → Prop} (H : Own h L) [i : MidIn b o L e pre cs post R] (hj : j < cs.length) (hk : ∀ g, Own g (midA b o e pre (cs.set j v) post :: R) → G g) :
    ∃ (e : TypeId) (c : List Value), Row h b e c ∧ o + j < c.length ∧ ∀ g, g = putRow h b e (c.set (o + j) v) → G g := by
  obtain ⟨rfl, H⟩ := (H.perm i.perm).midOpen
  refine ⟨e, _, H.row m0, by simp; omega, fun g hg => hk g (Own.midShut rfl ?_)⟩
  rw [mid_set hj] at hg
  exact hg ▸ H.put _
theorem Own.stM0 {G : Heap → Prop} (H : Own h L) [i : MidIn b o L e pre cs post R] (hj : 0 < cs.length) (hk : ∀ g, Own g (midA b o e pre (cs.set 0 v) post :: R) → G g) :
    ∃ (e : TypeId) (c : List Value), Row h b e c ∧ o < c.length ∧ ∀ g, g = putRow h b e (c.set o v) → G g := H.stM (j := 0) hj hk

/-! ### Elements apart from their row -/

theorem Own.elsNil (H : Own h L) : Own h (elsA k [] [] :: L) :=
  H.add (G := fun _ => False) (Frm.refl _ _) ⟨[], List.nodup_nil, fun b => by simp, rfl, rfl⟩ fun b hb => hb.elim
theorem Own.elsLen (H : Own h (elsA k xs cs :: L)) : cs.length = xs.length * k.size := by
  obtain ⟨F, ⟨M, _, _, s⟩, _⟩ := H.turn
  exact s.len
theorem Own.elsOne (H : Own h (elsA k xs cs :: L)) : ∀ v ∈ cs, oneV v = true := by
  obtain ⟨F, ⟨M, _, _, s⟩, _⟩ := H.turn
  exact s.one
theorem Own.elLen (H : Own h (elA k y cs :: L)) : cs.length = k.size := by
  obtain ⟨F, ⟨M, _, _, s⟩, _⟩ := H.turn
  exact k.len s
theorem Own.elOne (H : Own h (elA k y cs :: L)) : ∀ v ∈ cs, oneV v = true := by
  obtain ⟨F, ⟨M, _, _, s⟩, _⟩ := H.turn
  exact k.one s
theorem Own.elsSingle (H : Own h (elA k y cs :: L)) : Own h (elsA k [y] cs :: L) := by
  obtain ⟨F, ⟨M, nd, e, s⟩, w⟩ := H.turn
  exact w h (elsA k [y] cs) F ⟨M, nd, e, Els.single s⟩ ⟨Nat.le_refl _, fun _ _ _ => rfl⟩ fun b hb => .inl hb
theorem Own.elsJoin (H : Own h (elsA k xs c1 :: elsA k ys c2 :: L)) : Own h (elsA k (xs ++ ys) (c1 ++ c2) :: L) := by
  obtain ⟨F, ⟨F1, F2, e, d, ⟨M, nd, eM, s⟩, ⟨N, ndN, eN, t⟩⟩, w⟩ := H.join.turn
  refine w h (elsA k (xs ++ ys) (c1 ++ c2)) F ⟨M ++ N, List.nodup_append.2 ⟨nd, ndN, ?_⟩, fun x => ?_, s.append t⟩ ⟨Nat.le_refl _, fun _ _ _ => rfl⟩ fun b hb => .inl hb
  · rintro x hx y hy rfl
    exact d x ((eM x).2 hx) ((eN x).2 hy)
  · rw [e x, eM x, eN x, List.mem_append]
theorem Own.elsSplit (H : Own h (elsA k xs cs :: L)) {i : Nat} (hi : i ≤ xs.length) : ∃ c1 c2, cs = c1 ++ c2 ∧ c1.length = i * k.size ∧ Own h (elsA k (xs.take i) c1 :: elsA k (xs.drop i) c2 :: L) := by
  obtain ⟨F, ⟨M, nd, e, s⟩, w⟩ := H.turn
  obtain ⟨c1, c2, G1, G2, rfl, rfl, hl, s1, s2⟩ := s.split i hi
  obtain ⟨nd1, nd2, d⟩ := List.nodup_append.1 nd
  refine ⟨c1, c2, rfl, hl, Own.part (w h ((elsA k (xs.take i) c1).both (elsA k (xs.drop i) c2)) F ⟨fun x => x ∈ G1, fun x => x ∈ G2, fun x => ?_, fun x h1 h2 => d x h1 x h2 rfl, ⟨G1, nd1, fun _ => Iff.rfl, s1⟩, G2, nd2, fun _ => Iff.rfl, s2⟩ ⟨Nat.le_refl _, fun _ _ _ => rfl⟩ fun b hb => .inl hb)⟩
  rw [e x, List.mem_append]
theorem Own.elsHead {x : α} (H : Own h (elsA k (x :: xs) cs :: L)) : ∃ c1 c2, cs = c1 ++ c2 ∧ c1.length = k.size ∧ Own h (elA k x c1 :: elsA k xs c2 :: L) := by
  obtain ⟨F, ⟨M, nd, e, c1, c2, G1, G2, rfl, rfl, r, s⟩, w⟩ := H.turn
  obtain ⟨nd1, nd2, d⟩ := List.nodup_append.1 nd
  refine ⟨c1, c2, rfl, k.len r, Own.part (w h ((elA k x c1).both (elsA k xs c2)) F ⟨fun x => x ∈ G1, fun x => x ∈ G2, fun x => ?_, fun x h1 h2 => d x h1 x h2 rfl, ⟨G1, nd1, fun _ => Iff.rfl, r⟩, G2, nd2, fun _ => Iff.rfl, s⟩ ⟨Nat.le_refl _, fun _ _ _ => rfl⟩ fun b hb => .inl hb)⟩
  rw [e x, List.mem_append]
/-- A slice, opened. -/
theorem Own.slOpen (H : Own h (slA k xs a n c :: L)) : n = xs.length ∧ n ≤ c ∧ n < 281474976710656 ∧ ((a = none ∧ c = 0 ∧ Own h L) ∨
    ∃ b pre cs post, a = some ⟨b, pre.length, none⟩ ∧ (c - n) * k.size ≤ post.length ∧ Own h (rowA b k.tid (pre ++ cs ++ post) :: elsA k xs cs :: L)) := by
  obtain ⟨F, ⟨M, nd, e, hn, hc, hs⟩, w⟩ := H.turn
  refine ⟨hn, hc.1, hc.2, ?_⟩
  rcases hs with ⟨rfl, rfl, rfl⟩ | ⟨b, pre, cs, post, G, rfl, r, hp, els, rfl⟩
  · exact .inl ⟨rfl, rfl, H.drop⟩
  · obtain ⟨hb, ndG⟩ := List.nodup_cons.1 nd
    refine .inr ⟨b, pre, cs, post, rfl, hp, Own.part (w h ((rowA b k.tid (pre ++ cs ++ post)).both (elsA k xs cs)) F ⟨fun x => x = b, fun x => x ∈ G, fun x => ?_, fun x h1 h2 => hb (h1 ▸ h2), ⟨r, fun _ => Iff.rfl⟩, G, ndG, fun _ => Iff.rfl, els⟩ ⟨Nat.le_refl _, fun _ _ _ => rfl⟩ fun b hb => .inl hb)⟩
    rw [e x, List.mem_cons]
theorem Own.slShut (hc : xs.length ≤ c) (hm : xs.length < 281474976710656) (hp : (c - xs.length) * k.size ≤ post.length) (H : Own h (rowA b k.tid (pre ++ cs ++ post) :: elsA k xs cs :: L)) :
    Own h (slA k xs (some ⟨b, pre.length, none⟩) xs.length c :: L) := by
  obtain ⟨F, ⟨F1, F2, e, d, ⟨r, hf⟩, M, nd, eM, s⟩, w⟩ := H.join.turn
  refine w h (slA k xs (some ⟨b, pre.length, none⟩) xs.length c) F ⟨b :: M, List.nodup_cons.2 ⟨fun hb => d b ((hf b).2 rfl) ((eM b).2 hb), nd⟩, fun x => ?_, rfl, ⟨hc, hm⟩, .inr ⟨b, pre, cs, post, M, rfl, r, hp, s, rfl⟩⟩ ⟨Nat.le_refl _, fun _ _ _ => rfl⟩ fun b hb => .inl hb
  rw [e x, hf x, eM x, List.mem_cons]

/-! ### One element taken out, its cells open -/

/-- What stays of a slice whose i-th element is out; its cells lie between 'pre' and 'post'. -/
def restA (k : Kind α) (xs : List α) (i : Nat) (a : Option Addr) (n c b o : Nat) (pre post : List Value) : Asn where
  holds := fun h F => ∃ (p0 q0 c1 c2 : List Value) (F1 F2 : List Nat), a = some ⟨b, p0.length, none⟩ ∧ o = p0.length + i * k.size ∧ pre = p0 ++ c1 ∧ post = c2 ++ q0 ∧ c1.length = i * k.size ∧ i < xs.length ∧
    n = xs.length ∧ (n ≤ c ∧ n < 281474976710656) ∧ (c - n) * k.size ≤ q0.length ∧ Els k h (xs.take i) c1 F1 ∧ Els k h (xs.drop (i + 1)) c2 F2 ∧ (F1 ++ F2).Nodup ∧ (∀ x, F x ↔ x ∈ F1 ++ F2)
  frame := by
    rintro h h' F ⟨p0, q0, c1, c2, F1, F2, ha, ho, h1, h2, hl, hi, hn, hb, hp, e1, e2, nd, hf⟩ f
    exact ⟨p0, q0, c1, c2, F1, F2, ha, ho, h1, h2, hl, hi, hn, hb, hp, e1.frame fun x hx => f x ((hf x).2 (by simp [hx])), e2.frame fun x hx => f x ((hf x).2 (by simp [hx])), nd, hf⟩
  lt := by
    rintro h F ⟨p0, q0, c1, c2, F1, F2, ha, ho, h1, h2, hl, hi, hn, hb, hp, e1, e2, nd, hf⟩ x hx
    rcases List.mem_append.1 ((hf x).1 hx) with hx | hx
    · exact e1.lt x hx
    · exact e2.lt x hx
theorem Own.openAt (H : Own h (slA k xs a n c :: L)) {i : Nat} (hi : i < n) (d : α) :
    ∃ b o pre ci post, a = some ⟨b, o, none⟩ ∧ ci.length = k.size ∧ Own h (midA b (o + i * k.size) k.tid pre ci post :: elA k (xs.getD i d) ci :: restA k xs i a n c b (o + i * k.size) pre post :: L) := by
  obtain ⟨hn, hc, hm, hs⟩ := H.slOpen
  rcases hs with ⟨rfl, rfl, _⟩ | ⟨b, p0, cs, q0, rfl, hp, H⟩
  · omega
  · have hi' : i < xs.length := by omega
    obtain ⟨c1, c2, rfl, hl, H⟩ := H.p1.elsSplit (i := i) (by omega)
    have hd : xs.drop i = xs.getD i d :: xs.drop (i + 1) := by rw [getD_of d hi', List.drop_eq_getElem_cons hi']
    rw [hd] at H
    obtain ⟨ci, c2, rfl, hci, H⟩ := H.p1.elsHead
    refine ⟨b, p0.length, p0 ++ c1, ci, c2 ++ q0, rfl, hci, ?_⟩
    have H : Own h (rowA b k.tid (p0 ++ c1 ++ ci ++ (c2 ++ q0)) :: elA k (xs.getD i d) ci :: elsA k (xs.take i) c1 :: elsA k (xs.drop (i + 1)) c2 :: L) := by
      have := H.p3
      simp only [List.append_assoc] at this ⊢
      exact this.p3.p2.p2
    have H := (Own.midShut (o := p0.length + i * k.size) (by simp [hl]) H).q1.q3
    obtain ⟨F, ⟨F1, F2, e, d', ⟨M, nd, eM, s⟩, N, ndN, eN, t⟩, w⟩ := H.p2.p2.join.turn
    have := w h (restA k xs i (some ⟨b, p0.length, none⟩) n c b (p0.length + i * k.size) (p0 ++ c1) (c2 ++ q0)) F ⟨p0, q0, c1, c2, M, N, rfl, rfl, rfl, rfl, hl, hi', hn, ⟨hc, hm⟩, hp, s, t, List.nodup_append.2 ⟨nd, ndN, ?_⟩, fun x => ?_⟩ ⟨Nat.le_refl _, fun _ _ _ => rfl⟩ fun b hb => .inl hb
    · exact this.p2.p2
    · rintro x hx y hy rfl
      exact d' x ((eM x).2 hx) ((eN x).2 hy)
    · rw [e x, eM x, eN x, List.mem_append]
theorem Own.shutAt {i : Nat} {ci : List Value} (H : Own h (midA b o k.tid pre ci post :: elA k y ci :: restA k xs i a n c b o pre post :: L)) : Own h (slA k (xs.set i y) a n c :: L) := by
  have hci := H.p1.elLen
  obtain ⟨F, ⟨p0, q0, c1, c2, F1, F2, rfl, rfl, rfl, rfl, hl, hi, hn, hc, hp, e1, e2, nd, hf⟩, w⟩ := H.p2.turn
  obtain ⟨nd1, nd2, d⟩ := List.nodup_append.1 nd
  have H := Own.part (w h ((elsA k (xs.take i) c1).both (elsA k (xs.drop (i + 1)) c2)) F ⟨fun x => x ∈ F1, fun x => x ∈ F2, fun x => by rw [hf x, List.mem_append], fun x h1 h2 => d x h1 x h2 rfl, ⟨F1, nd1, fun _ => Iff.rfl, e1⟩, F2, nd2, fun _ => Iff.rfl, e2⟩ ⟨Nat.le_refl _, fun _ _ _ => rfl⟩ fun b hb => .inl hb)
  have H := H.p3.elsSingle.p1.elsJoin.elsJoin
  obtain ⟨_, H⟩ := H.p1.midOpen
  have e0 : xs.take i ++ [y] ++ xs.drop (i + 1) = xs.set i y := by rw [List.set_eq_take_append_cons_drop, if_pos hi]; simp
  rw [e0] at H
  have hlen : (xs.set i y).length = n := by simp [hn]
  have H : Own h (rowA b k.tid (p0 ++ (c1 ++ ci ++ c2) ++ q0) :: elsA k (xs.set i y) (c1 ++ ci ++ c2) :: L) := by
    simp only [List.append_assoc] at H ⊢
    exact H
  have := Own.slShut (c := c) (by omega) (by omega) (by rw [hlen]; exact hp) H
  rw [hlen] at this
  exact this
end
end Go.Proofs.Ytjmhahjmbmiepaa.D
