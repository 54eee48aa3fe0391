/- Elements with what they hold: appended, taken out. -/
import Derived.Test.YtjmhahjmbmiepaaKdA
namespace Go.Proofs.Ytjmhahjmbmiepaa.D
open Go
set_option linter.unusedVariables false
set_option linter.unusedSimpArgs false

section
variable {α : Type} {k : Kind α} {h : Heap} {L R R' R2 : List Asn} {xs ys : List α} {a : Option Addr} {n c b m : Nat} {e : TypeId} {ci : List Value} {y : α}
/-- An element in the call's own box is appended, with what it holds. -/
theorem Own.apEl {t : TypeId} {sz : Nat} {zs : List Value} {K : Option Addr → Nat → Nat → Heap → Prop} (H : Own h L) [i : SlIn a n c L α k xs R] [j : RowIn b R e ci R'] [q : ElIn ci R' α k y R2]
    (hmax : n + 1 ≤ 1073741824) (hk : ∀ a' c' h', Own h' (slA k (xs ++ [y]) a' (n + 1) c' :: R2) → K a' (n + 1) c' h') (hz : zs.length = k.size := by rfl) (ht : k.tid = t := by rfl) (hs : k.size = sz := by rfl) :
    appendH h t sz zs a n c (some ⟨b, 0, none⟩) 1 K := by
  subst ht hs
  have H := (H.perm i.perm).perm ((j.perm.trans (q.perm.cons _)).cons _)
  exact Own.appendOwn H.p2.p1 m0 hmax hz fun a' c' h' H => hk a' c' h' H.p1.drop
/-- Elements with what they hold, out of some row, are appended. -/
theorem Own.apEls {a2 : Option Addr} {news zs : List Value} {K : Option Addr → Nat → Nat → Heap → Prop} (H : Own h (slA k xs a n c :: elsA k ys news :: L)) (hm : m = ys.length) (hmax : n + m ≤ 1073741824)
    (ha2 : a2 = none → m = 0) (hc2 : CellsAt h a2 news (m * k.size)) (hz : zs.length = k.size) (hk : ∀ a' c' h', Own h' (slA k (xs ++ ys) a' (n + m) c' :: L) → K a' (n + m) c' h') : appendH h k.tid k.size zs a n c a2 m K := by
  obtain ⟨F, ⟨G1, G2, e12, d, ⟨M, nd, eM, s⟩, ⟨N, ndN, eN, rN⟩⟩, w⟩ := H.join.turn
  refine s.append nd hm hmax ha2 hc2 rN ndN (fun x hx hx' => d x ((eM x).2 hx) ((eN x).2 hx')) hz ?_
  intro a' c' h' F' f s' nd' hs
  refine hk a' c' h' (w h' (slA k (xs ++ ys) a' (n + m) c') (fun x => x ∈ F') ⟨F', nd', fun _ => Iff.rfl, s'⟩ (f.toS fun x hx => (e12 x).2 (.inl ((eM x).2 hx))) fun x hx => ?_)
  rcases hs x hx with hh | hh | hh
  · exact .inl ((e12 x).2 (.inl ((eM x).2 hh)))
  · exact .inl ((e12 x).2 (.inr ((eN x).2 hh)))
  · exact .inr hh
theorem Own.openAt2 (sz : Nat) (t : TypeId) (H : Own h (slA k xs a n c :: L)) {i : Nat} (hi : i < n) (d : α) (hs : k.size = sz := by rfl) (ht : k.tid = t := by rfl) :
    ∃ b o pre ci post, a = some ⟨b, o, none⟩ ∧ ci.length = sz ∧ Own h (midA b (o + i * sz) t pre ci post :: elA k (xs.getD i d) ci :: restA k xs i a n c b (o + i * sz) pre post :: L) := by
  subst hs ht; exact H.openAt hi d
theorem Own.shutAt2 {t : TypeId} {o i : Nat} {pre post : List Value} (H : Own h (midA b o t pre ci post :: elA k y ci :: restA k xs i a n c b o pre post :: L)) (ht : k.tid = t := by rfl) : Own h (slA k (xs.set i y) a n c :: L) := by
  subst ht; exact H.shutAt
theorem takeSnoc {i : Nat} (d : α) (hi : i < xs.length) : xs.take i ++ [xs.getD i d] = xs.take (i + 1) := by
  rw [List.take_succ_eq_append_getElem hi, getD_of d hi]
theorem set_same {i : Nat} {d : α} (hi : i < xs.length) : xs.set i (xs.getD i d) = xs := by rw [getD_of d hi]; exact List.set_getElem_self _
/-- The element 'restA' waits for. -/
class RestIn (b o : Nat) (pre post : List Value) (L : List Asn) (α : outParam Type) (k : outParam (Kind α)) (xs : outParam (List α)) (i : outParam Nat) (a : outParam (Option Addr)) (n c : outParam Nat) (R : outParam (List Asn)) : Prop where
  perm : L.Perm (restA k xs i a n c b o pre post :: R)
instance RestIn.head {o i : Nat} {pre post : List Value} : RestIn b o pre post (restA k xs i a n c b o pre post :: L) α k xs i a n c L := ⟨.refl _⟩
instance (priority := low) RestIn.tail {A : Asn} {o i : Nat} {pre post : List Value} [q : RestIn b o pre post L α k xs i a n c R] : RestIn b o pre post (A :: L) α k xs i a n c (A :: R) := ⟨perm_back q.perm⟩
instance SubL.el {T : List Asn} {P : Prop} {y' : α} [i : ElIn ci L α k y R] [j : SubL R T P] : SubL L (elA k y' ci :: T) (y = y' ∧ P) := ⟨fun hp => by
  obtain ⟨rfl, hp⟩ := hp
  exact (Les.perm i.perm).trans (j.les hp).cons⟩
instance SubL.rest {T : List Asn} {P : Prop} {o i : Nat} {pre post : List Value} [q : RestIn b o pre post L α k xs i a n c R] [j : SubL R T P] : SubL L (restA k xs i a n c b o pre post :: T) P := ⟨fun hp => (Les.perm q.perm).trans (j.les hp).cons⟩
/-- The element goes back to its place. -/
theorem Own.back {t : TypeId} {i : Nat} {pre post : List Value} (H : Own h (elA k y ci :: L)) (b o : Nat) [j : MidIn b o L t pre ci post R] [q : RestIn b o pre post R α k xs i a n c R'] (ht : k.tid = t := by rfl) : Own h (slA k (xs.set i y) a n c :: R') := by
  subst ht
  have H := H.perm ((j.perm.trans (q.perm.cons _)).cons _)
  exact H.p1.shutAt
end
end Go.Proofs.Ytjmhahjmbmiepaa.D
