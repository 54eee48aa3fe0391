/- Operations on memory, read at the heap. -/
import Derived.Test.YtjmhahjmbmiepaaDenC
namespace Go.Proofs.Ytjmhahjmbmiepaa.D
open Go

section
variable {xf : Bool} {P : Program} {h : Heap}

/-! ### Loads -/

def ldC (h : Heap) (b o : Nat) : Nat → List Leaf → (List LV → Prop) → Prop
  | _, [], K => K []
  | i, l :: ls, K => l.ex fun v => cellAt h b (o + i) = some v.val ∧ ldC h b o (i + 1) ls fun vs => K (v :: vs)

theorem sok_load {b o : Nat} {v : Value} {K : Value → Heap → Prop} (hc : cellAt h b o = some v) (k : K v h) : SOk xf P (load ⟨b, o, none⟩) h K := by
  intro w hw
  refine ⟨v, w, ?_, Same.refl w, fun _ => rfl, by rw [hw]; exact k⟩
  simp [load, Sem.run, cell?_eq, hw, hc]

theorem ldC_of : ∀ {ls : List Leaf} {b o i : Nat} {K : List LV → Prop}, ldC h b o i ls K →
    ∃ vs, vs.length = ls.length ∧ (∀ j v, vs[j]? = some v → cellAt h b (o + (i + j)) = some v.val) ∧ K vs
  | [], _, _, _, _, k => ⟨[], rfl, by simp, k⟩
  | l :: ls, b, o, i, K, k => by
    obtain ⟨v, hc, k⟩ := Leaf.ex_of k
    obtain ⟨vs, hl, hv, k⟩ := ldC_of k
    refine ⟨v :: vs, by simp [hl], ?_, k⟩
    intro j u hu
    cases j with
    | zero => simp at hu; subst hu; exact hc
    | succ j => simp at hu; have := hv j u hu; rw [show i + (j + 1) = i + 1 + j from by omega]; exact this

theorem sok_loadCellsFrom {b o : Nat} : ∀ (n i : Nat) (vs : List Value) (acc : Array Value) {K : Array Value → Heap → Prop}, vs.length = n →
    (∀ j v, vs[j]? = some v → cellAt h b (o + (i + j)) = some v) → K (acc ++ ⟨vs⟩) h → SOk xf P (loadCellsFrom ⟨b, o, none⟩ i n acc) h K
  | 0, i, vs, acc, K, hl, hv, k => by
    have : vs = [] := List.eq_nil_of_length_eq_zero hl
    subst this
    exact SOk.pure (by simpa using k)
  | n + 1, i, [], acc, K, hl, hv, k => by simp at hl
  | n + 1, i, v :: vs, acc, K, hl, hv, k => by
    unfold loadCellsFrom
    rw [Addr.add_lit]
    refine SOk.bind (sok_load (v := v) (hv 0 v rfl) ?_)
    refine sok_loadCellsFrom n (i + 1) vs (acc.push v) (by simpa using hl) ?_ ?_
    · intro j u hu
      have := hv (j + 1) u (by simpa using hu)
      rw [show i + 1 + j = i + (j + 1) from by omega]; exact this
    · have : acc.push v ++ (⟨vs⟩ : Array Value) = acc ++ ⟨v :: vs⟩ := by
        apply Array.toList_inj.1; simp
      rw [this]; exact k

theorem sok_loadCells {b o : Nat} {vs : List Value} {n : Nat} {K : Array Value → Heap → Prop} (hl : vs.length = n)
    (hv : ∀ j v, vs[j]? = some v → cellAt h b (o + j) = some v) (k : K ⟨vs⟩ h) : SOk xf P (loadCells ⟨b, o, none⟩ n) h K :=
  sok_loadCellsFrom n 0 vs #[] hl (by simpa using hv) (by simpa using k)

/-! ### Stores -/

def splice (c : List Value) (o : Nat) (vs : List Value) : List Value := c.take o ++ vs ++ c.drop (o + vs.length)
/-- Cells 'vs' are written from cell 'o' of block 'b' on. -/
def wrH (h : Heap) (b o : Nat) (vs : List Value) (K : Heap → Prop) : Prop := match vs with
  | [] => K h
  | [v] => ∃ e c, Row h b e c ∧ o < c.length ∧ K (putRow h b e (c.set o v))
  | vs => ∃ e c, Row h b e c ∧ o + vs.length ≤ c.length ∧ K (putRow h b e (splice c o vs))

theorem splice_length {c : List Value} {o : Nat} {vs : List Value} (hl : o + vs.length ≤ c.length) : (splice c o vs).length = c.length := by
  unfold splice; simp; omega
theorem splice_nil (c : List Value) (o : Nat) : splice c o [] = c := by simp [splice]
theorem set_splice {c : List Value} {o : Nat} {v : Value} {vs : List Value} (hl : o < c.length) : splice (c.set o v) (o + 1) vs = splice c o (v :: vs) := by
  unfold splice
  have h1 : (c.set o v).take (o + 1) = c.take o ++ [v] := by
    rw [List.take_set]
    rw [List.take_succ_eq_append_getElem hl, List.set_append_right _ _ (by simp; omega)]
    simp [Nat.min_eq_left (Nat.le_of_lt hl)]
  have h2 : (c.set o v).drop (o + 1 + vs.length) = c.drop (o + (v :: vs).length) := by
    rw [List.drop_set_of_lt (by omega)]
    congr 1
    simp; omega
  rw [h1, h2]
  simp
theorem set_eq_splice {c : List Value} {o : Nat} {v : Value} (hl : o < c.length) : c.set o v = splice c o [v] := by
  rw [← set_splice hl, splice_nil]

theorem wrH_of {b o : Nat} {vs : List Value} {K : Heap → Prop} (hw : wrH h b o vs K) : (vs = [] ∧ K h) ∨ ∃ e c, Row h b e c ∧ o + vs.length ≤ c.length ∧ K (putRow h b e (splice c o vs)) := by
  unfold wrH at hw
  split at hw
  · exact .inl ⟨rfl, hw⟩
  · obtain ⟨e, c, r, hl, k⟩ := hw
    exact .inr ⟨e, c, r, by simp; omega, by rw [← set_eq_splice hl]; exact k⟩
  · exact .inr hw

theorem row_lt {b : Nat} {e : TypeId} {c : List Value} (r : Row h b e c) : b < h.size := by
  unfold Row at r
  rcases Nat.lt_or_ge b h.size with hlt | hge
  · exact hlt
  · rw [Array.getElem?_eq_none hge] at r; cases r
theorem row_put {b : Nat} {e : TypeId} {c : List Value} (hb : b < h.size) : Row (putRow h b e c) b e c := by
  unfold Row putRow
  simp [hb]
theorem put_put {b : Nat} {e : TypeId} {c c' : List Value} : putRow (putRow h b e c) b e c' = putRow h b e c' := by
  unfold putRow
  simp

theorem setCell_eq {w : World} {b o : Nat} {e : TypeId} {c : List Value} {v : Value} (r : Row w.heap b e c) : (w.setCell ⟨b, o, none⟩ v).heap = putRow w.heap b e (c.set o v) := by
  have hb := row_lt r
  unfold World.setCell putRow
  unfold Row at r
  apply Array.ext
  · simp
  · intro i h1 h2
    rw [Array.getElem_modify]
    rw [Array.getElem_setIfInBounds]
    have e' : w.heap[b] = .cells ⟨c⟩ e (0, 0) := by rw [Array.getElem?_eq_getElem hb] at r; injection r
    by_cases hbi : b = i
    · subst hbi
      simp [e']
    · simp [hbi]
    · simp at h2; exact h2

theorem frozen?_eq {w : World} {b o : Nat} {e : TypeId} {c : List Value} (r : Row w.heap b e c) : w.frozen? ⟨b, o, none⟩ = false := by
  unfold World.frozen?
  unfold Row at r
  rw [r]
  simp

def oneV : Value → Bool
  | .agg _ | .tuple _ => false
  | _ => true
theorem LV.one {v : LV} (hv : v.ok = true) : oneV v.val = true := by cases v <;> first | rfl | cases hv

theorem sok_storeCells {b : Nat} {e : TypeId} : ∀ (vs : List Value) (h : Heap) (c : List Value) (o i : Nat) {K : Unit → Heap → Prop}, (∀ v ∈ vs, oneV v = true) →
    Row h b e c → o + i + vs.length ≤ c.length → K () (putRow h b e (splice c (o + i) vs)) → SOk false P (storeCells ⟨b, o, none⟩ vs i) h K
  | [], h, c, o, i, K, _, r, _, k => by
    unfold storeCells
    rw [splice_nil] at k
    have : putRow h b e c = h := by
      unfold putRow; unfold Row at r
      apply Array.ext
      · simp
      · intro j h1 h2
        rw [Array.getElem_setIfInBounds]
        split
        · rename_i hbj; subst hbj
          rw [Array.getElem?_eq_getElem h2] at r; injection r with r; exact r.symm
        · rfl
    rw [this] at k
    exact SOk.pure k
  | v :: vs, h, c, o, i, K, hv, r, hl, k => by
    unfold storeCells
    rw [Addr.add_lit]
    simp only [List.length_cons] at hl
    refine SOk.bind ?_
    intro w hw
    subst hw
    have hcell : w.cell? ⟨b, o + i, none⟩ = some c[o + i] := by
      rw [cell?_eq, r.cell, List.getElem?_eq_getElem (by omega)]
    have h1 : oneV v = true := hv v (by simp)
    refine ⟨(), w.setCell ⟨b, o + i, none⟩ v, ?_, ⟨rfl, rfl, rfl⟩, (fun hx => by cases hx), ?_⟩
    · unfold store
      cases v <;> first
        | (simp [oneV] at h1; done)
        | (simp [Sem.run, hcell, frozen?_eq r]; done)
    · rw [setCell_eq r]
      refine sok_storeCells vs _ (c.set (o + i) v) o (i + 1) (fun u hu => hv u (by simp [hu])) (row_put (row_lt r)) (by simp; omega) ?_
      rw [put_put, ← Nat.add_assoc, set_splice (by omega)]
      exact k
end
end Go.Proofs.Ytjmhahjmbmiepaa.D
