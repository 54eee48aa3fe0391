/- Elements, holes, rows made, append. -/
import Derived.Test.YtjmhahjmbmiepaaSepA
namespace Go.Proofs.Ytjmhahjmbmiepaa.D
open Go
set_option linter.unusedVariables false
set_option linter.unusedSimpArgs false

/-- One datum in cells that lie elsewhere. -/
def elA {α : Type} (k : Kind α) (x : α) (ci : List Value) : Asn where
  holds := fun h F => ∃ M : List Nat, M.Nodup ∧ (∀ b, F b ↔ b ∈ M) ∧ k.rep h x ci M
  frame := by
    rintro h h' F ⟨M, nd, e, s⟩ f
    exact ⟨M, nd, e, k.frame s fun b hb => f b ((e b).2 hb)⟩
  lt := by
    rintro h F ⟨M, nd, e, s⟩ b hb
    exact k.lt s b ((e b).1 hb)
/-- A slice but for its i-th element, whose cells are 'ci'. -/
def holeA {α : Type} (k : Kind α) (xs : List α) (i : Nat) (a : Option Addr) (n c : Nat) (b o : Nat) (ci : List Value) : Asn where
  holds := fun h F => ∃ (pre c1 c2 post : List Value) (F1 F2 : List Nat), a = some ⟨b, o, none⟩ ∧ o = pre.length ∧ Row h b k.tid (pre ++ (c1 ++ ci ++ c2) ++ post) ∧ c1.length = i * k.size ∧ ci.length = k.size ∧ i < xs.length ∧
    n = xs.length ∧ (n ≤ c ∧ n < 281474976710656) ∧ (c - n) * k.size ≤ post.length ∧ Els k h (xs.take i) c1 F1 ∧ Els k h (xs.drop (i + 1)) c2 F2 ∧ (b :: (F1 ++ F2)).Nodup ∧ (∀ x, F x ↔ x ∈ b :: (F1 ++ F2))
  frame := by
    rintro h h' F ⟨pre, c1, c2, post, F1, F2, ha, ho, r, hl, hc, hi, hn, hb, hp, e1, e2, nd, hf⟩ f
    exact ⟨pre, c1, c2, post, F1, F2, ha, ho, (f b ((hf b).2 (by simp))).trans r, hl, hc, hi, hn, hb, hp, e1.frame fun x hx => f x ((hf x).2 (by simp [hx])), e2.frame fun x hx => f x ((hf x).2 (by simp [hx])), nd, hf⟩
  lt := by
    rintro h F ⟨pre, c1, c2, post, F1, F2, ha, ho, r, hl, hc, hi, hn, hb, hp, e1, e2, nd, hf⟩ x hx
    have := (hf x).1 hx
    rcases List.mem_cons.1 this with rfl | this
    · exact row_lt r
    · rcases List.mem_append.1 this with this | this
      · exact e1.lt x this
      · exact e2.lt x this

section
variable {α : Type} {k : Kind α} {h : Heap} {L : List Asn} {xs ys : List α} {a a' : Option Addr} {n c n' c' : Nat}

theorem Own.elem (H : Own h (slA k xs a n c :: L)) {i : Nat} (hi : i < xs.length) :
    ∃ b o ci, a = some ⟨b, o, none⟩ ∧ Own h (elA k xs[i] ci :: holeA k xs i a n c b o ci :: L) := by
  obtain ⟨F, ⟨M, nd, e, hn, hc, hs⟩, w⟩ := H.turn
  rcases hs with ⟨rfl, rfl, rfl⟩ | ⟨b, pre, cs, post, G, rfl, r, hp, els, rfl⟩
  · omega
  · obtain ⟨c1, ci, c2, F1, Fi, F2, rfl, rfl, hl, e1, e2, e3⟩ := els.at hi
    refine ⟨b, pre.length, ci, rfl, Own.part (w h ((elA k xs[i] ci).both (holeA k xs i (some ⟨b, pre.length, none⟩) n c b pre.length ci)) F ?_ ⟨Nat.le_refl _, fun _ _ _ => rfl⟩ fun b hb => .inl hb)⟩
    obtain ⟨hbn, hG⟩ := List.nodup_cons.1 nd
    obtain ⟨nd12, nd2, d2⟩ := List.nodup_append.1 hG
    obtain ⟨nd1, ndi, d1⟩ := List.nodup_append.1 nd12
    refine ⟨fun x => x ∈ Fi, fun x => x ∈ b :: (F1 ++ F2), fun x => ?_, fun x h1 h2 => ?_, ⟨Fi, ndi, fun _ => Iff.rfl, e2⟩, pre, c1, c2, post, F1, F2, rfl, rfl, r, hl, k.len e2, hi, hn, hc, hp, e1, e3, ?_, fun _ => Iff.rfl⟩
    · rw [e x]; simp only [List.mem_cons, List.mem_append]
      constructor
      · rintro (h | (h | h) | h) <;> simp [h]
      · rintro (h | h | h | h) <;> simp [h]
    · simp only [List.mem_cons, List.mem_append] at h2
      rcases h2 with rfl | h2 | h2
      · exact hbn (by simp [h1])
      · exact d1 x h2 x h1 rfl
      · exact d2 x (by simp [h1]) x h2 rfl
    · refine List.nodup_cons.2 ⟨fun hm => hbn ?_, List.nodup_append.2 ⟨nd1, nd2, fun x h1 y h2 => d2 x (by simp [h1]) y h2⟩⟩
      simp only [List.mem_append] at hm ⊢
      rcases hm with hm | hm <;> simp [hm]
theorem Own.close {i : Nat} {b o : Nat} {y : α} {ci : List Value} (H : Own h (elA k y ci :: holeA k xs i a n c b o ci :: L)) : Own h (slA k (xs.set i y) a n c :: L) := by
  obtain ⟨F, ⟨G1, G2, e, d, ⟨Fi, ndi, ei, r2⟩, pre, c1, c2, post, F1, F2, rfl, rfl, r, hl, hci, hi, hn, hc, hp, e1, e3, nd, hf⟩, w⟩ := H.join.turn
  refine w h _ F ⟨b :: (F1 ++ Fi ++ F2), ?_, fun x => ?_, by simpa using hn, hc, .inr ⟨b, pre, c1 ++ ci ++ c2, post, F1 ++ Fi ++ F2, rfl, r, hp, els_set hi e1 r2 e3, rfl⟩⟩ ⟨Nat.le_refl _, fun _ _ _ => rfl⟩ fun b hb => .inl hb
  · obtain ⟨hbn, nd12⟩ := List.nodup_cons.1 nd
    obtain ⟨nd1, nd2, d2⟩ := List.nodup_append.1 nd12
    have out : ∀ x, x ∈ Fi → x ∉ b :: (F1 ++ F2) := fun x hx hm => d x ((ei x).2 hx) ((hf x).2 hm)
    refine List.nodup_cons.2 ⟨fun hm => ?_, List.nodup_append.2 ⟨List.nodup_append.2 ⟨nd1, ndi, ?_⟩, nd2, ?_⟩⟩
    · simp only [List.mem_append] at hm
      rcases hm with (hm | hm) | hm
      · exact hbn (by simp [hm])
      · exact out b hm (by simp)
      · exact hbn (by simp [hm])
    · rintro x h1 y h2 rfl; exact out x h2 (by simp [h1])
    · rintro x h1 y h2 rfl
      rcases List.mem_append.1 h1 with h1 | h1
      · exact d2 x h1 x h2 rfl
      · exact out x h1 (by simp [h2])
  · rw [e x, ei x, hf x]; simp only [List.mem_cons, List.mem_append]
    constructor
    · rintro (h | h | h | h) <;> simp [h]
    · rintro (h | (h | h) | h) <;> simp [h]
theorem hole_row {c1 c2 ci pre post : List Value} {j : Nat} (hj : j < ci.length) : (pre ++ (c1 ++ ci ++ c2) ++ post)[pre.length + (c1.length + j)]? = ci[j]? := by
  have e0 : pre ++ (c1 ++ ci ++ c2) ++ post = (pre ++ c1) ++ (ci ++ (c2 ++ post)) := by simp
  rw [e0, List.getElem?_append_right (by simp)]
  rw [show pre.length + (c1.length + j) - (pre ++ c1).length = j from by simp; omega]
  rw [List.getElem?_append_left hj]
theorem Own.holeCell {i : Nat} {b o : Nat} {ci : List Value} (H : Own h L) (hm : holeA k xs i a n c b o ci ∈ L) {j : Nat} {v : Value} (hv : ci[j]? = some v) : cellAt h b (o + (i * k.size + j)) = some v := by
  obtain ⟨F, pre, c1, c2, post, F1, F2, rfl, rfl, r, hl, hci, hi, hn, hc, hp, e1, e3, nd, hf⟩ := H.get hm
  have hj : j < ci.length := by
    rcases Nat.lt_or_ge j ci.length with hh | hh
    · exact hh
    · rw [List.getElem?_eq_none hh] at hv; cases hv
  rw [r.cell, ← hl, hole_row hj]
  exact hv
theorem Own.holePut {i : Nat} {b o : Nat} {ci : List Value} (H : Own h (holeA k xs i a n c b o ci :: L)) {j : Nat} (hj : j < k.size) :
    ∃ row, Row h b k.tid row ∧ o + (i * k.size + j) < row.length ∧ ∀ v, Own (putRow h b k.tid (row.set (o + (i * k.size + j)) v)) (holeA k xs i a n c b o (ci.set j v) :: L) := by
  obtain ⟨F, ⟨pre, c1, c2, post, F1, F2, rfl, rfl, r, hl, hci, hi, hn, hc, hp, e1, e3, nd, hf⟩, w⟩ := H.turn
  have e0 : pre ++ (c1 ++ ci ++ c2) ++ post = (pre ++ c1) ++ (ci ++ (c2 ++ post)) := by simp
  refine ⟨_, r, by simp; omega, fun v => w _ _ F ⟨pre, c1, c2, post, F1, F2, rfl, rfl, ?_, hl, by simpa using hci, hi, hn, hc, hp, ?_, ?_, nd, hf⟩ ((Frm.put (S := [b]) h _ _ (by simp)).toS fun x hx => (hf x).2 (by simp at hx; simp [hx])) fun b hb => .inl hb⟩
  · have hset : (pre ++ (c1 ++ ci ++ c2) ++ post).set (pre.length + (i * k.size + j)) v = pre ++ (c1 ++ ci.set j v ++ c2) ++ post := by
      rw [e0, List.set_append_right _ _ (by simp; omega)]
      rw [show pre.length + (i * k.size + j) - (pre ++ c1).length = j from by simp; omega]
      rw [List.set_append_left _ _ (by omega)]
      simp
    rw [hset]
    exact Row.put h _ _ (row_lt r)
  · refine e1.frame fun x hx => ?_
    rw [get_put, if_neg]
    rintro rfl
    exact (List.nodup_cons.1 nd).1 (by simp [hx])
  · refine e3.frame fun x hx => ?_
    rw [get_put, if_neg]
    rintro rfl
    exact (List.nodup_cons.1 nd).1 (by simp [hx])

/-- A slice is a datum. -/
theorem Own.toEl (t : TypeId) (H : Own h (slA k xs a n c :: L)) : Own h (elA (kSl t k) xs [.slice a n c] :: L) := by
  obtain ⟨F, ⟨M, nd, e, s⟩, w⟩ := H.turn
  exact w h _ F ⟨M, nd, e, s.rep t⟩ ⟨Nat.le_refl _, fun _ _ _ => rfl⟩ fun b hb => .inl hb
theorem Own.ofEl {t : TypeId} {ci : List Value} (H : Own h (elA (kSl t k) xs ci :: L)) : ∃ a n c, ci = [.slice a n c] ∧ Own h (slA k xs a n c :: L) := by
  obtain ⟨F, ⟨M, nd, e, a, n, c, rfl, s⟩, w⟩ := H.turn
  exact ⟨a, n, c, rfl, w h (slA k xs a n c) F ⟨M, nd, e, s⟩ ⟨Nat.le_refl _, fun _ _ _ => rfl⟩ fun b hb => .inl hb⟩
/-- The i-th of the inner slices, and what stays of the outer one. -/
theorem Own.inner {t : TypeId} {zs : List (List α)} (H : Own h (slA (kSl t k) zs a n c :: L)) {i : Nat} (hi : i < zs.length) :
    ∃ b o ai ni ci, a = some ⟨b, o, none⟩ ∧ cellAt h b (o + i) = some (.slice ai ni ci) ∧ Own h (slA k zs[i] ai ni ci :: holeA (kSl t k) zs i a n c b o [.slice ai ni ci] :: L) := by
  obtain ⟨b, o, ci, ha, H⟩ := H.elem hi
  obtain ⟨ai, ni, cpi, rfl, H⟩ := H.ofEl
  have := H.holeCell m1 (j := 0) rfl
  exact ⟨b, o, ai, ni, cpi, ha, by simpa [kSl] using this, H⟩
theorem Own.innerCell {t : TypeId} {zs : List (List α)} {i b o ni ci : Nat} {ai : Option Addr} (H : Own h L) (hm : holeA (kSl t k) zs i a n c b o [.slice ai ni ci] ∈ L) : cellAt h b (o + i) = some (.slice ai ni ci) := by
  have := H.holeCell hm (j := 0) rfl
  simpa [kSl] using this
theorem Own.innerPut {t : TypeId} {zs : List (List α)} {i b o ni ci : Nat} {ai : Option Addr} (H : Own h (holeA (kSl t k) zs i a n c b o [.slice ai ni ci] :: L)) :
    ∃ row, Row h b t row ∧ o + i < row.length ∧ ∀ a' n' c', Own (putRow h b t (row.set (o + i) (.slice a' n' c'))) (holeA (kSl t k) zs i a n c b o [.slice a' n' c'] :: L) := by
  obtain ⟨row, r, hl, w⟩ := H.holePut (j := 0) (by simp [kSl])
  simp only [kSl, Nat.mul_one, Nat.add_zero, List.set_cons_zero] at r hl w
  exact ⟨row, r, hl, fun a' n' c' => w _⟩
theorem Own.closeSl {t : TypeId} {zs : List (List α)} {i b o : Nat} (H : Own h (slA k ys a' n' c' :: holeA (kSl t k) zs i a n c b o [.slice a' n' c'] :: L)) : Own h (slA (kSl t k) (zs.set i ys) a n c :: L) := (H.toEl t).close
theorem Own.closeSl' {t : TypeId} {zs : List (List α)} {i b o : Nat} (hi : i < zs.length) (H : Own h (slA k zs[i] a' n' c' :: holeA (kSl t k) zs i a n c b o [.slice a' n' c'] :: L)) : Own h (slA (kSl t k) zs a n c :: L) := by
  have := H.closeSl
  rwa [List.set_getElem_self] at this

/-! ### Rows of the call's own making -/

theorem els_repl {z : α} {zs : List Value} (hz : ∀ h, k.rep h z zs []) : ∀ n, Els k h (List.replicate n z) (repl zs n) []
  | 0 => ⟨by rw [repl_eq]; rfl, rfl⟩
  | n + 1 => ⟨zs, repl zs n, [], [], by rw [repl_eq, repl_eq, List.replicate_succ, List.flatten_cons], rfl, hz h, els_repl hz n⟩
theorem Own.made (H : Own h L) (k : Kind α) (z : α) {zs : List Value} (hz : ∀ h, k.rep h z zs []) {m : Nat} (hm : m < 281474976710656) : Own (newRowH h k.tid (repl zs m)) (slA k (List.replicate m z) (some ⟨h.size, 0, none⟩) m m :: L) := by
  have := Sl.made k h (c := m) (post := []) (els_repl (h := h) hz m) (by simp) (by simp) (by simpa using hm)
  simp only [List.length_replicate, List.append_nil] at this
  exact H.slNew (Frm.new _ _ _ _) this ⟨List.nodup_cons.2 ⟨by simp, List.nodup_nil⟩, fun x hx => by simp at hx; omega⟩
theorem Own.made0 (H : Own h L) (k : Kind α) : Own (newRowH h k.tid []) (slA k [] (some ⟨h.size, 0, none⟩) 0 0 :: L) := by
  have := Sl.made k h (xs := []) (cs := []) (G := []) (c := 0) (post := []) ⟨rfl, rfl⟩ (by simp) (by simp) (by simp)
  simp only [List.length_nil, List.append_nil] at this
  exact H.slNew (Frm.new _ _ _ _) this ⟨List.nodup_cons.2 ⟨by simp, List.nodup_nil⟩, fun x hx => by simp at hx; omega⟩

/-! ### append -/

theorem Own.appendG {news : List Value} {a2 : Option Addr} {m : Nat} {zs : List Value} {K : Option Addr → Nat → Nat → Heap → Prop} (H : Own h (slA k xs a n c :: L))
    (hm : m = ys.length) (hmax : n + m ≤ 1073741824) (ha2 : a2 = none → m = 0) (hc2 : CellsAt h a2 news (m * k.size)) (e : Els k h ys news []) (hz : zs.length = k.size)
    (hk : ∀ a' c' h', Own h' (slA k (xs ++ ys) a' (n + m) c' :: L) → K a' (n + m) c' h') : appendH h k.tid k.size zs a n c a2 m K := by
  obtain ⟨F, nd, s, w⟩ := H.slTurn
  refine s.append nd hm hmax ha2 hc2 e List.nodup_nil (by simp) hz fun a' c' h' F' f s' nd' hs => hk a' c' h' (w k h' (xs ++ ys) a' (n + m) c' F' f s' nd' fun x hx => ?_)
  rcases hs x hx with hh | hh | hh
  · exact .inl hh
  · cases hh
  · exact .inr hh

/-- What of the elements lies in no block. -/
def Kind.Flat (k : Kind α) : Prop := ∀ {h x c F}, k.rep h x c F → F = []
theorem flatEls (hk : k.Flat) : ∀ {xs : List α} {cs : List Value} {F : List Nat}, Els k h xs cs F → F = []
  | [], _, _, ⟨_, rfl⟩ => rfl
  | x :: xs, _, _, ⟨c1, c2, F1, F2, _, rfl, r, rs⟩ => by rw [hk r, flatEls hk rs]; rfl
theorem cells_mid {b : Nat} {t : TypeId} {pre cs post : List Value} (r : Row h b t (pre ++ cs ++ post)) : CellsAt h (some ⟨b, pre.length, none⟩) cs cs.length := by
  refine ⟨rfl, rfl, fun j v hj => ?_⟩
  have hj' : j < cs.length := by
    rcases Nat.lt_or_ge j cs.length with hh | hh
    · exact hh
    · rw [List.getElem?_eq_none hh] at hj; cases hj
  rw [r.cell, List.append_assoc]
  show (pre ++ (cs ++ post))[pre.length + j]? = _
  rw [List.getElem?_append_right (by omega), show pre.length + j - pre.length = j from by omega, List.getElem?_append_left hj']
  exact hj
/-- The whole of another slice is appended. -/
theorem Own.appendSl {c2 : Nat} {a2 : Option Addr} {m : Nat} {zs : List Value} {K : Option Addr → Nat → Nat → Heap → Prop} (H : Own h (slA k xs a n c :: L)) (hf : k.Flat)
    (src : slA k ys a2 m c2 ∈ L) (hmax : n + m ≤ 1073741824) (hz : zs.length = k.size)
    (hk : ∀ a' c' h', Own h' (slA k (xs ++ ys) a' (n + m) c' :: L) → K a' (n + m) c' h') : appendH h k.tid k.size zs a n c a2 m K := by
  obtain ⟨F, hm, hc, hs⟩ := H.drop.sl src
  rcases hs with ⟨rfl, rfl, rfl⟩ | ⟨b, pre, cs, post, G, rfl, r, hp, els, rfl⟩
  · have h0 : ys = [] := List.eq_nil_of_length_eq_zero (by omega)
    have hm0 : m = 0 := by omega
    subst h0 hm0
    exact H.appendG (news := []) (ys := []) rfl hmax (fun _ => rfl) ⟨by simp, trivial⟩ ⟨rfl, rfl⟩ hz hk
  · obtain rfl := flatEls hf els
    refine H.appendG hm hmax (fun h => by cases h) ?_ els hz hk
    rw [hm, ← els.len]
    exact cells_mid r
/-- One element is appended, from the call's own box. -/
theorem Own.append1 {b : Nat} {e : TypeId} {cs : List Value} {y : α} {zs : List Value} {K : Option Addr → Nat → Nat → Heap → Prop} (H : Own h (slA k xs a n c :: L))
    (src : rowA b e cs ∈ L) (hr : k.rep h y cs []) (hmax : n + 1 ≤ 1073741824) (hz : zs.length = k.size)
    (hk : ∀ a' c' h', Own h' (slA k (xs ++ [y]) a' (n + 1) c' :: L) → K a' (n + 1) c' h') : appendH h k.tid k.size zs a n c (some ⟨b, 0, none⟩) 1 K := by
  have r := H.drop.row src
  refine H.appendG rfl hmax (fun h => by cases h) ?_ (Els.single hr) hz hk
  have := cells_mid (pre := []) (post := []) (cs := cs) (by simpa using r)
  rw [k.len hr] at this
  simpa using this
/-- The same, with what the element holds. -/
theorem Own.appendOwn {b : Nat} {e : TypeId} {cs : List Value} {y : α} {zs : List Value} {K : Option Addr → Nat → Nat → Heap → Prop} (H : Own h (slA k xs a n c :: elA k y cs :: L))
    (src : rowA b e cs ∈ L) (hmax : n + 1 ≤ 1073741824) (hz : zs.length = k.size)
    (hk : ∀ a' c' h', Own h' (slA k (xs ++ [y]) a' (n + 1) c' :: L) → K a' (n + 1) c' h') : appendH h k.tid k.size zs a n c (some ⟨b, 0, none⟩) 1 K := by
  have r := H.drop.drop.row src
  obtain ⟨F, ⟨G1, G2, e12, d, ⟨M, nd, eM, s⟩, ⟨N, ndN, eN, rN⟩⟩, w⟩ := H.join.turn
  have hc2 : CellsAt h (some ⟨b, 0, none⟩) cs (1 * k.size) := by
    have := cells_mid (pre := []) (post := []) (cs := cs) (by simpa using r)
    rw [k.len rN] at this
    simpa using this
  refine s.append nd rfl hmax (fun h => by cases h) hc2 (Els.single rN) ndN (fun x hx hx' => d x ((eM x).2 hx) ((eN x).2 hx')) hz ?_
  intro a' c' h' F' f s' nd' hs
  refine hk a' c' h' (w h' (slA k (xs ++ [y]) a' (n + 1) c') (fun x => x ∈ F') ⟨F', nd', fun _ => Iff.rfl, s'⟩ (f.toS fun x hx => (e12 x).2 (.inl ((eM x).2 hx))) fun x hx => ?_)
  rcases hs x hx with hh | hh | hh
  · exact .inl ((e12 x).2 (.inl ((eM x).2 hh)))
  · exact .inl ((e12 x).2 (.inr ((eN x).2 hh)))
  · exact .inr hh
/-- A slice is appended to a slice of slices. -/
theorem Own.appendIn {t e : TypeId} {b : Nat} {xss : List (List α)} {zs : List Value} {K : Option Addr → Nat → Nat → Heap → Prop} (H : Own h (slA (kSl t k) xss a n c :: slA k ys a' n' c' :: L))
    (src : rowA b e [.slice a' n' c'] ∈ L) (hmax : n + 1 ≤ 1073741824) (hz : zs.length = 1)
    (hk : ∀ a1 c1 h', Own h' (slA (kSl t k) (xss ++ [ys]) a1 (n + 1) c1 :: L) → K a1 (n + 1) c1 h') : appendH h t 1 zs a n c (some ⟨b, 0, none⟩) 1 K :=
  (H.p1.toEl t).p1.appendOwn src hmax hz hk
theorem flatI (t : TypeId) : (kInt t).Flat := fun ⟨_, h, _⟩ => h
theorem flatB (t : TypeId) : (kBool t).Flat := fun ⟨_, h⟩ => h
end
end Go.Proofs.Ytjmhahjmbmiepaa.D
