/- Slices that are written, made, appended to. -/
import Derived.Test.YtjamacjoohelmaaRepA
namespace Go.Proofs.Ytjamacjoohelmaa.D
open Go
set_option linter.unusedVariables false

section
variable {α : Type} {k : Kind α} {h h' : Heap} {xs : List α} {a : Option Addr} {n c : Nat} {F S : List Nat}

theorem els_set {c1 c2 ci' : List Value} {F1 F2 Fi' : List Nat} {i : Nat} {y : α} (hi : i < xs.length) (e1 : Els k h' (xs.take i) c1 F1) (e2 : k.rep h' y ci' Fi') (e3 : Els k h' (xs.drop (i + 1)) c2 F2) :
    Els k h' (xs.set i y) (c1 ++ ci' ++ c2) (F1 ++ Fi' ++ F2) := by
  have e : xs.set i y = xs.take i ++ ([y] ++ xs.drop (i + 1)) := by
    rw [List.set_eq_take_append_cons_drop, if_pos hi]; rfl
  rw [e, List.append_assoc, List.append_assoc]
  exact e1.append ((Els.single e2).append e3)

/-- One cell of the i-th element is written. -/
theorem Sl.setCell (s : Sl k h xs a n c F) (hF : F.Nodup) {i j : Nat} (hi : i < xs.length) (hj : j < k.size) :
    ∃ b o row ci Fi, a = some ⟨b, o, none⟩ ∧ b ∈ F ∧ Row h b k.tid row ∧ o + (i * k.size + j) < row.length ∧ k.rep h xs[i] ci Fi ∧ (∀ x ∈ Fi, x ∈ F ∧ x ≠ b) ∧
      (∀ j v, ci[j]? = some v → row[o + (i * k.size + j)]? = some v) ∧
      ∀ v y, k.rep h y (ci.set j v) Fi → Sl k (putRow h b k.tid (row.set (o + (i * k.size + j)) v)) (xs.set i y) a n c F := by
  obtain ⟨hn, hc, hs⟩ := s
  rcases hs with ⟨rfl, rfl, rfl⟩ | ⟨b, pre, cs, post, G, rfl, r, hp, e, rfl⟩
  · omega
  · obtain ⟨c1, ci, c2, F1, Fi, F2, rfl, rfl, hl, e1, e2, e3⟩ := e.at hi
    have hci := k.len e2
    have hbn : b ∉ F1 ++ Fi ++ F2 := (List.nodup_cons.1 hF).1
    have e0 : pre ++ (c1 ++ ci ++ c2) ++ post = (pre ++ c1) ++ (ci ++ (c2 ++ post)) := by simp
    refine ⟨b, pre.length, _, ci, Fi, rfl, by simp, r, by simp; omega, e2, fun x hx => ⟨by simp [hx], fun hh => hbn (by subst hh; simp [hx])⟩, ?_, ?_⟩
    · intro j v hj
      have hj' : j < ci.length := by
        rcases Nat.lt_or_ge j ci.length with hh | hh
        · exact hh
        · rw [List.getElem?_eq_none hh] at hj; cases hj
      rw [e0, List.getElem?_append_right (by simp; omega)]
      rw [show pre.length + (i * k.size + j) - (pre ++ c1).length = j from by simp; omega]
      rw [List.getElem?_append_left hj']
      exact hj
    · intro v y ry
      refine ⟨by simpa using hn, hc, .inr ⟨b, pre, c1 ++ ci.set j v ++ c2, post, F1 ++ Fi ++ F2, rfl, ?_, hp, ?_, rfl⟩⟩
      · have hset : (pre ++ (c1 ++ ci ++ c2) ++ post).set (pre.length + (i * k.size + j)) v = pre ++ (c1 ++ ci.set j v ++ c2) ++ post := by
          rw [e0, List.set_append_right _ _ (by simp; omega)]
          rw [show pre.length + (i * k.size + j) - (pre ++ c1).length = j from by simp; omega]
          rw [List.set_append_left _ _ (by omega)]
          simp
        rw [hset]
        exact Row.put h _ _ (row_lt r)
      · have fr : ∀ b' ∈ F1 ++ Fi ++ F2, (putRow h b k.tid ((pre ++ (c1 ++ ci ++ c2) ++ post).set (pre.length + (i * k.size + j)) v))[b']? = h[b']? := by
          intro b' hb'
          rw [get_put, if_neg]
          rintro rfl
          exact hbn hb'
        exact els_set hi (e1.frame fun b hb => fr b (by simp [hb])) (k.frame ry fun b hb => fr b (by simp [hb])) (e3.frame fun b hb => fr b (by simp [hb]))

/-- The header of an element is replaced: what the element held has turned into something of its own. -/
theorem Sl.replace {β : Type} {t : TypeId} {l : Kind β} {ys : List (List β)} (s : Sl (kSl t l) h ys a n c F) (hF : F.Nodup) {i : Nat} (hi : i < ys.length) :
    ∃ b o row ai ni ci Fi, a = some ⟨b, o, none⟩ ∧ b ∈ F ∧ Row h b t row ∧ o + i < row.length ∧ row[o + i]? = some (.slice ai ni ci) ∧ Sl l h ys[i] ai ni ci Fi ∧ (∀ x ∈ Fi, x ∈ F ∧ x ≠ b) ∧ Fi.Nodup ∧
      ∀ h1 zs a' n' c' Fi', Frm Fi h h1 → Sl l h1 zs a' n' c' Fi' → Fi'.Nodup → (∀ x ∈ Fi', x ∈ Fi ∨ h.size ≤ x) →
        Row h1 b t row ∧ ∃ F', F'.Nodup ∧ (∀ x ∈ F', x ∈ F ∨ h.size ≤ x) ∧ Sl (kSl t l) (putRow h1 b t (row.set (o + i) (.slice a' n' c'))) (ys.set i zs) a n c F' := by
  obtain ⟨hn, hc, hs⟩ := s
  rcases hs with ⟨rfl, rfl, rfl⟩ | ⟨b, pre, cs, post, G, rfl, r, hp, e, rfl⟩
  · omega
  · obtain ⟨c1, ci, c2, F1, Fi, F2, rfl, rfl, hl, e1, ⟨ai, ni, cpi, rfl, si⟩, e3⟩ := e.at hi
    have hl1 : c1.length = i := by rw [hl]; exact Nat.mul_one i
    obtain ⟨hbn, hG⟩ := List.nodup_cons.1 hF
    have e0 : pre ++ (c1 ++ [Value.slice ai ni cpi] ++ c2) ++ post = (pre ++ c1) ++ ([Value.slice ai ni cpi] ++ (c2 ++ post)) := by simp
    have hnd := List.nodup_append.1 hG
    have hnd1 := List.nodup_append.1 hnd.1
    refine ⟨b, pre.length, _, ai, ni, cpi, Fi, rfl, by simp, r, by simp; omega, ?_, si, fun x hx => ⟨by simp [hx], fun hh => hbn (by subst hh; simp [hx])⟩, hnd1.2.1, ?_⟩
    · rw [e0, List.getElem?_append_right (by simp; omega)]
      rw [show pre.length + i - (pre ++ c1).length = 0 from by simp; omega]
      rfl
    · intro h1 zs a' n' c' Fi' f s' hN hnew
      have hb1 : Row h1 b t (pre ++ (c1 ++ [Value.slice ai ni cpi] ++ c2) ++ post) := r.frm f fun hm => hbn (by simp [hm])
      have hlt : ∀ x ∈ F1 ++ Fi ++ F2, x < h.size := e.lt
      have hbl : b < h.size := row_lt r
      refine ⟨hb1, b :: (F1 ++ Fi' ++ F2), ?_, ?_, by simpa using hn, hc, .inr ⟨b, pre, c1 ++ [.slice a' n' c'] ++ c2, post, F1 ++ Fi' ++ F2, rfl, ?_, hp, ?_, rfl⟩⟩
      · have key : ∀ x ∈ Fi', x ∉ F1 ∧ x ∉ F2 ∧ x ≠ b := by
          intro x hx
          rcases hnew x hx with hm | hm
          · refine ⟨fun hh => hnd1.2.2 x hh x hm rfl, fun hh => hnd.2.2 x (by simp [hm]) x hh rfl, fun hh => hbn (by subst hh; simp [hm])⟩
          · exact ⟨fun hh => by have := hlt x (by simp [hh]); omega, fun hh => by have := hlt x (by simp [hh]); omega, by omega⟩
        refine List.nodup_cons.2 ⟨?_, ?_⟩
        · intro hm
          rcases List.mem_append.1 hm with hm | hm
          · rcases List.mem_append.1 hm with hm | hm
            · exact hbn (by simp [hm])
            · exact (key b hm).2.2 rfl
          · exact hbn (by simp [hm])
        · refine List.nodup_append.2 ⟨List.nodup_append.2 ⟨hnd1.1, hN, ?_⟩, hnd.2.1, ?_⟩
          · rintro x hx y hy rfl; exact (key x hy).1 hx
          · rintro x hx y hy rfl
            rcases List.mem_append.1 hx with hx | hx
            · exact hnd.2.2 x (by simp [hx]) x hy rfl
            · exact (key x hx).2.1 hy
      · intro x hx
        rcases List.mem_cons.1 hx with rfl | hx
        · exact .inl (by simp)
        · rcases List.mem_append.1 hx with hx | hx
          · rcases List.mem_append.1 hx with hx | hx
            · exact .inl (by simp [hx])
            · rcases hnew x hx with hm | hm
              · exact .inl (by simp [hm])
              · exact .inr hm
          · exact .inl (by simp [hx])
      · have hset : (pre ++ (c1 ++ [Value.slice ai ni cpi] ++ c2) ++ post).set (pre.length + i) (.slice a' n' c') = pre ++ (c1 ++ [.slice a' n' c'] ++ c2) ++ post := by
          rw [e0, List.set_append_right _ _ (by simp; omega)]
          rw [show pre.length + i - (pre ++ c1).length = 0 from by simp; omega]
          simp
        rw [hset]
        exact Row.put h1 _ _ (row_lt hb1)
      · have fr1 : ∀ b' ∈ F1 ++ F2, (putRow h1 b t ((pre ++ (c1 ++ [Value.slice ai ni cpi] ++ c2) ++ post).set (pre.length + i) (.slice a' n' c')))[b']? = h[b']? := by
          intro b' hb'
          have hm : b' ∈ F1 ++ Fi ++ F2 := by
            rcases List.mem_append.1 hb' with hb' | hb' <;> simp [hb']
          have hne : ¬ b = b' := by rintro rfl; exact hbn hm
          rw [get_put, if_neg hne]
          refine f.2 b' (hlt b' hm) fun hx => ?_
          rcases List.mem_append.1 hb' with hb' | hb'
          · exact hnd1.2.2 b' hb' b' hx rfl
          · exact hnd.2.2 b' (by simp [hx]) b' hb' rfl
        have fr2 : ∀ b' ∈ Fi', (putRow h1 b t ((pre ++ (c1 ++ [Value.slice ai ni cpi] ++ c2) ++ post).set (pre.length + i) (.slice a' n' c')))[b']? = h1[b']? := by
          intro b' hb'
          rw [get_put, if_neg]
          rintro rfl
          rcases hnew b hb' with hm | hm
          · exact hbn (by simp [hm])
          · omega
        refine els_set hi (e1.frame fun b hb => fr1 b (by simp [hb])) ?_ (e3.frame fun b hb => fr1 b (by simp [hb]))
        exact (kSl t l).frame (s'.rep t) fr2

/-- A row of the call's own making. -/
theorem Sl.made (k : Kind α) (h : Heap) {xs : List α} {cs : List Value} {post : List Value} {c : Nat} {G : List Nat} (e : Els k h xs cs G) (hp : (c - xs.length) * k.size ≤ post.length) (hc : xs.length ≤ c) (hb : xs.length < 281474976710656) :
    Sl k (newRowH h k.tid (cs ++ post)) xs (some ⟨h.size, 0, none⟩) xs.length c (h.size :: G) := by
  refine ⟨rfl, ⟨hc, hb⟩, .inr ⟨h.size, [], cs, post, G, rfl, by simpa using Row.new h k.tid (cs ++ post), hp, ?_, rfl⟩⟩
  exact e.frame fun b hb => by rw [get_new, if_neg]; have := e.lt b hb; omega

theorem repl_length (zs : List Value) (m : Nat) : (repl zs m).length = m * zs.length := by
  rw [repl_eq]; simp
theorem mem_repl {zs : List Value} {m : Nat} {v : Value} (h : v ∈ repl zs m) : v ∈ zs := by
  rw [repl_eq] at h
  simp at h
  obtain ⟨l, ⟨_, rfl⟩, hv⟩ := h
  exact hv

theorem splice_mid {pre cs post news : List Value} (hl : news.length ≤ post.length) : splice (pre ++ cs ++ post) (pre.length + cs.length) news = pre ++ (cs ++ news) ++ post.drop news.length := by
  unfold splice
  have h1 : (pre ++ cs ++ post).take (pre.length + cs.length) = pre ++ cs := by
    rw [List.take_append_of_le_length (by simp), List.take_of_length_le (by simp)]
  have h2 : (pre ++ cs ++ post).drop (pre.length + cs.length + news.length) = post.drop news.length := by
    rw [List.drop_append]
    simp
  rw [h1, h2]
  simp

/-- 'append' onto a slice that is owned whole. -/
theorem Sl.append (s : Sl k h xs a n c F) (hF : F.Nodup) {ys : List α} {news : List Value} {G : List Nat} {a2 : Option Addr} {m : Nat} {zs : List Value} {K : Option Addr → Nat → Nat → Heap → Prop}
    (hm : m = ys.length) (hmax : n + m ≤ 1073741824) (ha2 : a2 = none → m = 0) (hc2 : CellsAt h a2 news (m * k.size)) (e : Els k h ys news G) (hG : G.Nodup) (hFG : ∀ x ∈ F, x ∉ G) (hz : zs.length = k.size)
    (hk : ∀ a' c' h' F', Frm F h h' → Sl k h' (xs ++ ys) a' (n + m) c' F' → F'.Nodup → (∀ x ∈ F', x ∈ F ∨ x ∈ G ∨ h.size ≤ x) → K a' (n + m) c' h') :
    appendH h k.tid k.size zs a n c a2 m K := by
  obtain ⟨hn, hc, hs⟩ := s
  refine ⟨hmax, ha2, fun ha => ?_, news, hc2, e.one, fun hle => ?_, fun hlt => ?_⟩
  · rcases hs with ⟨_, rfl, _⟩ | ⟨b, pre, cs, post, G0, hb, _⟩
    · omega
    · rw [ha] at hb; cases hb
  · rcases hs with ⟨rfl, rfl, rfl⟩ | ⟨b, pre, cs, post, G0, rfl, r, hp, e0, rfl⟩
    · have h0 : xs = [] := List.eq_nil_of_length_eq_zero (by omega)
      have h1 : ys = [] := List.eq_nil_of_length_eq_zero (by omega)
      subst h0 h1
      refine hk none 0 h [] (Frm.refl _ _) ⟨by simp; omega, by omega, .inl ⟨rfl, rfl, rfl⟩⟩ List.nodup_nil (fun x hx => by cases hx)
    · refine ⟨rfl, ?_⟩
      have hl := e.len
      have hl0 := e0.len
      obtain ⟨hbn, hG0⟩ := List.nodup_cons.1 hF
      have hpost : news.length ≤ post.length := by
        rw [hl]
        refine Nat.le_trans ?_ hp
        exact Nat.mul_le_mul_right _ (by omega)
      have hoff : pre.length + n * k.size = pre.length + cs.length := by rw [hl0, hn]
      have done : Sl k (putRow h b k.tid (pre ++ (cs ++ news) ++ post.drop news.length)) (xs ++ ys) (some ⟨b, pre.length, none⟩) (n + m) c (b :: (G0 ++ G)) := by
        refine ⟨by simp; omega, by omega, .inr ⟨b, pre, cs ++ news, post.drop news.length, G0 ++ G, rfl, Row.put h _ _ (row_lt r), ?_, ?_, rfl⟩⟩
        · rw [List.length_drop, hl, ← hm]
          have : (c - (n + m)) * k.size = (c - n) * k.size - m * k.size := by rw [← Nat.sub_mul]; congr 1; omega
          omega
        · refine (e0.frame fun x hx => ?_).append (e.frame fun x hx => ?_)
          · rw [get_put, if_neg]; rintro rfl; exact hbn hx
          · rw [get_put, if_neg]; rintro rfl; exact hFG b (by simp) hx
      have nd : (b :: (G0 ++ G)).Nodup := by
        refine List.nodup_cons.2 ⟨fun hx => ?_, List.nodup_append.2 ⟨hG0, hG, ?_⟩⟩
        · rcases List.mem_append.1 hx with hx | hx
          · exact hbn hx
          · exact hFG b (by simp) hx
        · rintro x hx y hy rfl; exact hFG x (by simp [hx]) hy
      have mem : ∀ x ∈ b :: (G0 ++ G), x ∈ b :: G0 ∨ x ∈ G ∨ h.size ≤ x := by
        intro x hx
        rcases List.mem_cons.1 hx with rfl | hx
        · exact .inl (by simp)
        · rcases List.mem_append.1 hx with hx | hx
          · exact .inl (by simp [hx])
          · exact .inr (.inl hx)
      have hrow : pre.length + n * k.size + news.length ≤ (pre ++ cs ++ post).length := by simp; omega
      unfold wrH
      split
      · refine hk _ _ _ (b :: (G0 ++ G)) (Frm.refl _ _) ?_ nd mem
        have e2 : putRow h b k.tid (pre ++ (cs ++ []) ++ post.drop ([] : List Value).length) = h := by
          simp only [List.append_nil, List.length_nil, List.drop_zero]
          unfold putRow; unfold Row at r
          apply Array.ext
          · simp
          · intro j h1 h2
            rw [Array.getElem_setIfInBounds]
            split
            · rename_i hbj; subst hbj
              rw [Array.getElem?_eq_getElem h2] at r; injection r with r; exact r.symm
            · rfl
        rw [e2] at done
        exact done
      · refine ⟨k.tid, _, r, by simp at hrow ⊢; omega, ?_⟩
        rw [set_eq_splice (by simp at hrow ⊢; omega), hoff, splice_mid hpost]
        exact hk _ _ _ (b :: (G0 ++ G)) (Frm.put h _ _ (by simp)) done nd mem
      · refine ⟨k.tid, _, r, hrow, ?_⟩
        rw [hoff, splice_mid hpost]
        exact hk _ _ _ (b :: (G0 ++ G)) (Frm.put h _ _ (by simp)) done nd mem
  · have old : ∃ cs G0, Els k h xs cs G0 ∧ CellsAt h a cs (n * k.size) ∧ G0.Nodup ∧ (∀ x ∈ G0, x ∈ F) := by
      rcases hs with ⟨rfl, rfl, rfl⟩ | ⟨b, pre, cs, post, G0, rfl, r, hp, e0, rfl⟩
      · have h0 : xs = [] := List.eq_nil_of_length_eq_zero (by omega)
        subst h0
        exact ⟨[], [], ⟨rfl, rfl⟩, ⟨by simp at hn; simp [hn], trivial⟩, List.nodup_nil, fun x hx => by cases hx⟩
      · refine ⟨cs, G0, e0, ⟨by rw [e0.len, hn], rfl, fun j v hj => ?_⟩, (List.nodup_cons.1 hF).2, fun x hx => by simp [hx]⟩
        have hj' : j < cs.length := by
          rcases Nat.lt_or_ge j cs.length with hh | hh
          · exact hh
          · rw [List.getElem?_eq_none hh] at hj; cases hj
        rw [r.cell, List.append_assoc]
        show (pre ++ (cs ++ post))[pre.length + j]? = _
        rw [List.getElem?_append_right (by omega)]
        rw [show pre.length + j - pre.length = j from by omega, List.getElem?_append_left hj']
        exact hj
    obtain ⟨cs, G0, e0, hcs, hG0, hsub⟩ := old
    refine ⟨cs, hcs, fun nc hnc => ?_⟩
    have e1 := e0.append e
    have hlen : (xs ++ ys).length = n + m := by simp; omega
    have := Sl.made k h (c := nc) (post := repl zs (nc - (n + m))) e1 (by rw [repl_length, hz, hlen]; exact Nat.le_refl _) (by rw [hlen]; exact hnc) (by omega)
    rw [hlen] at this
    refine hk _ _ _ (h.size :: (G0 ++ G)) (Frm.new _ _ _ _) this ?_ ?_
    · refine List.nodup_cons.2 ⟨fun hx => ?_, List.nodup_append.2 ⟨hG0, hG, ?_⟩⟩
      · have := e1.lt _ hx; omega
      · rintro x hx y hy rfl; exact hFG x (hsub x hx) hy
    · intro x hx
      rcases List.mem_cons.1 hx with rfl | hx
      · exact .inr (.inr (Nat.le_refl _))
      · rcases List.mem_append.1 hx with hx | hx
        · exact .inl (hsub x hx)
        · exact .inr (.inl hx)
end
end Go.Proofs.Ytjamacjoohelmaa.D
