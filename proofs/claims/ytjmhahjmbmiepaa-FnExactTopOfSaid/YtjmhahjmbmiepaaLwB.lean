/- What the arguments of a law read as; the row's end. -/
import Derived.Test.YtjmhahjmbmiepaaCtB
import Derived.Test.YtjmhahjmbmiepaaRows
import Derived.WalkKit
import Derived.ProofKit
import Derived.OpenShut
namespace Go.Proofs.Ytjmhahjmbmiepaa.D
open Go Go.ChangeShapes Go.WideShapes Go.ChangeAt Go.RowKit
set_option linter.unusedVariables false
set_option linter.unusedSimpArgs false

theorem inI64_of_wf {n : Int} (h : (Lit.int .i64 n).wf = true) : inI64 n := by
  unfold inI64
  have : -9223372036854775808 ≤ n ∧ n ≤ 9223372036854775807 := by simpa [Lit.wf, IntKind.min, IntKind.max, IntKind.signed, IntKind.bits] using h
  omega
section
variable {H : Type} {enc : TypeId × Value → H} {P : Program} {W : World} {sp : Nat → Bool} {held : Bool} {d : DataW H} {ps : List MemPlace} {t e : TypeId} {a : Option Addr} {n c : Nat}

theorem cell_at {a : Addr} {v : Value} {j : Nat} (hs : a.spot = none) (h : W.cell? (a.add j) = some v) : cellAt W.heap a.block (a.off + j) = some v := by
  obtain ⟨b, o, s⟩ := a
  simp only at hs
  subst hs
  rw [← cell?_eq]
  unfold Addr.add at h
  split at h
  · rename_i h0; subst h0; exact h
  · exact h

theorem rdI_of (ht : P.underlying t = some (.slice e)) (he : P.underlying e = some (.int .i64)) (hc : P.cellsOf e = 1) (h : DataW.Trod enc P W 0 sp held t (.slice a n c) d ps) : ∃ xs, RdI W.heap xs a n := by
  obtain ⟨fuel, hf⟩ := h
  rcases open_ints ht he hc hf with ⟨hcs, hx⟩ | ⟨a', len, cap, zs, hcs, _, hl, hm, hz, hx, hcell, hwz⟩
  · simp [Value.cells] at hcs
    obtain ⟨rfl, rfl, rfl⟩ := hcs
    exact ⟨[], rfl, by omega, fun hi => by simp at hi⟩
  · simp [Value.cells] at hcs
    obtain ⟨rfl, rfl, rfl⟩ := hcs
    have hlen : n ≤ zs.length := by rw [hz]; split <;> omega
    refine ⟨zs.take n, by simp; omega, by unfold maxLen at hm; omega, fun {i} hi => ?_⟩
    rw [List.length_take] at hi
    have hs : a'.spot = none := by
      have := World.cell?_spot (hcell 0 (by omega))
      simpa [Addr.add] using this
    have h1 := cell_at hs (hcell i (by omega))
    have hi' : i < zs.length := by omega
    have e1 : zs.getD i 0 = (zs.take n)[i]'(by rw [List.length_take]; exact hi) := by simp [List.getD, hi']
    rw [e1] at h1
    refine ⟨a'.block, a'.off, by obtain ⟨b, o, s⟩ := a'; simp only at hs; subst hs; rfl, h1, inI64_of_wf (hwz _ ?_)⟩
    exact List.mem_of_mem_take (List.getElem_mem _)

theorem rdS_of {f0 f1 f2 f3 : Field} (ht : P.underlying t = some (.slice e)) (he : P.underlying e = some (.struct #[f0, f1, f2, f3])) (hc : P.cellsOf e = 4)
    {u : TypeId} (hu : P.underlying u = some (.int .i64)) (hcu : P.cellsOf u = 1) (h0 : f0.type = u ∧ f0.offset = 0) (h1 : f1.type = u ∧ f1.offset = 1) (h2 : f2.type = u ∧ f2.offset = 2) (h3 : f3.type = u ∧ f3.offset = 3)
    (h : DataW.Trod enc P W 0 sp held t (.slice a n c) d ps) : ∃ xs, RdS W.heap xs a n := by
  obtain ⟨fuel, hf⟩ := h
  rcases DataW.trod_slice ht hf with ⟨hcs, hx⟩ | ⟨a', len, cap, elems, rest, m, _, hcs, hx, _, hl, hm, hlen, hel, _⟩
  · simp [Value.cells] at hcs
    obtain ⟨rfl, rfl, rfl⟩ := hcs
    exact ⟨[], rfl, by omega, fun hi => by simp at hi⟩
  · simp [Value.cells] at hcs
    obtain ⟨rfl, rfl, rfl⟩ := hcs
    have each : ∀ i, i < n → ∃ c0 c1 c2 c3 : Int, (inI64 c0 ∧ inI64 c1 ∧ inI64 c2 ∧ inI64 c3) ∧ W.cell? ((a'.add (i * 4)).add 0) = some (.int .i64 c0) ∧ W.cell? ((a'.add (i * 4)).add 1) = some (.int .i64 c1) ∧
        W.cell? ((a'.add (i * 4)).add 2) = some (.int .i64 c2) ∧ W.cell? ((a'.add (i * 4)).add 3) = some (.int .i64 c3) := by
      intro i hi
      have hE := hel i hi
      have hi2 : i < elems.length := by omega
      rw [List.getElem?_eq_getElem hi2, Option.bind_eq_some_iff] at hE
      obtain ⟨cs, hcs, hy⟩ := hE
      obtain ⟨_, hl4, hcell⟩ := World.cells?_some hcs
      rw [hc] at hl4 hcell
      obtain ⟨ys, n', _, _, _, hys, hfs⟩ := DataW.trod_struct he hy
      match cs, hl4 with
      | [c0, c1, c2, c3], _ =>
        have hys : ys.length = 4 := hys
        have g0 := hfs 0 f0 rfl
        have g1 := hfs 1 f1 rfl
        have g2 := hfs 2 f2 rfl
        have g3 := hfs 3 f3 rfl
        rw [h0.1, h0.2, hcu, List.getElem?_eq_getElem (by omega)] at g0
        rw [h1.1, h1.2, hcu, List.getElem?_eq_getElem (by omega)] at g1
        rw [h2.1, h2.2, hcu, List.getElem?_eq_getElem (by omega)] at g2
        rw [h3.1, h3.2, hcu, List.getElem?_eq_getElem (by omega)] at g3
        obtain ⟨z0, e0, _, w0⟩ := DataW.trod_int hu g0
        obtain ⟨z1, e1, _, w1⟩ := DataW.trod_int hu g1
        obtain ⟨z2, e2, _, w2⟩ := DataW.trod_int hu g2
        obtain ⟨z3, e3, _, w3⟩ := DataW.trod_int hu g3
        simp at e0 e1 e2 e3
        subst e0 e1 e2 e3
        exact ⟨z0, z1, z2, z3, ⟨inI64_of_wf w0, inI64_of_wf w1, inI64_of_wf w2, inI64_of_wf w3⟩, hcell 0 (by omega), hcell 1 (by omega), hcell 2 (by omega), hcell 3 (by omega)⟩
    have hs : 0 < n → a'.spot = none := fun hp => by
      obtain ⟨c0, _, _, _, _, k0, _⟩ := each 0 hp
      have := World.cell?_spot k0
      simpa [Addr.add] using this
    have step : ∀ i, i < n → ∃ x : StepD, x.ok ∧ cellAt W.heap a'.block (a'.off + i * 4) = some (.int .i64 x.kind) ∧ cellAt W.heap a'.block (a'.off + i * 4 + 1) = some (.int .i64 x.from_) ∧
        cellAt W.heap a'.block (a'.off + i * 4 + 2) = some (.int .i64 x.to) ∧ cellAt W.heap a'.block (a'.off + i * 4 + 3) = some (.int .i64 x.many) := by
      intro i hi
      obtain ⟨c0, c1, c2, c3, hr, k0, k1, k2, k3⟩ := each i hi
      have hs := hs (by omega)
      obtain ⟨b, o, s⟩ := a'
      simp only at hs
      subst hs
      have ha : (Addr.add ⟨b, o, none⟩ (i * 4)) = ⟨b, o + i * 4, none⟩ := by
        unfold Addr.add
        split
        · rename_i hz; rw [hz]; rfl
        · rfl
      rw [ha] at k0 k1 k2 k3
      exact ⟨⟨c0, c1, c2, c3⟩, hr, cell_at (a := ⟨b, o + i * 4, none⟩) rfl k0, cell_at (a := ⟨b, o + i * 4, none⟩) rfl k1, cell_at (a := ⟨b, o + i * 4, none⟩) rfl k2, cell_at (a := ⟨b, o + i * 4, none⟩) rfl k3⟩
    refine ⟨(List.range n).map fun i => if hi : i < n then (step i hi).choose else ⟨0, 0, 0, 0⟩, by simp, by unfold maxLen at hm; omega, fun {i} hi => ?_⟩
    have hi' : i < n := by simpa using hi
    have hx := (step i hi').choose_spec
    have hs := hs (by omega)
    simp only [List.getElem_map, List.getElem_range, hi', ↓reduceDIte]
    exact ⟨a'.block, a'.off, by obtain ⟨b, o, s⟩ := a'; simp only at hs; subst hs; rfl, hx.2.1, hx.2.2.1, hx.2.2.2.1, hx.2.2.2.2, hx.1⟩

theorem trodAll_stays (hl : laidOutB P = true) {W' : World} : ∀ {ts : List TypeId} {vs : List Value} {ds : List (DataW H)} {ps : List MemPlace}, (∀ t ∈ ts, P.readableRec t = true ∧ t < P.types.size) →
    DataW.TrodAll enc P W 0 (fun _ => true) true ts vs ds ps → (∀ p ∈ ps, W.sameAt W' p) → (∀ p ∈ ps, sp p.block = true) → DataW.TrodAll enc P W' 0 sp true ts vs ds ps
  | [], [], [], _, _, h, _, _ => h
  | [], [], _ :: _, _, _, h, _, _ => h.elim
  | [], _ :: _, _, _, _, h, _, _ => h.elim
  | _ :: _, [], _, _, _, h, _, _ => h.elim
  | _ :: _, _ :: _, [], _, _, h, _, _ => h.elim
  | t :: ts, v :: vs, d :: ds, ps, ht, ⟨p, q, h0, h1, hp⟩, hs, hsp => by
    subst hp
    refine ⟨p, q, ?_, ?_, rfl⟩
    · exact WideElems.Trod_stays hl (ht t (by simp)).1 (ht t (by simp)).2 h0 (fun x hx => hs x (by simp [hx])) fun x hx => hsp x (by simp [hx])
    · exact trodAll_stays hl (fun t h => ht t (by simp [h])) h1 (fun x hx => hs x (by simp [hx])) fun x hx => hsp x (by simp [hx])
/-- A law's answer, where the call left alone all that was there. -/
theorem law_post {f : Func} {s : ChangeSpec} {apart fresh handsOn : Bool} {W' : World} {args : Array Value} {ds gs : List (DataW H)} {before : List MemPlace} {tb : TypeId} (hl : laidOutB P = true)
    (hW : DataW.Whole enc P f.params.toList s.vars apart W args.toList ds gs before) (hp : ∀ t ∈ f.params.toList, P.readableRec t = true ∧ t < P.types.size) (hv : s.vars = [])
    (hres : (s.fn H (ds ++ gs)).results = [.lit (.bool true)] ∧ (s.fn H (ds ++ gs)).args = ds ∧ (s.fn H (ds ++ gs)).vars = []) (hr : f.resultTypes = #[tb]) (htb : P.underlying tb = some .bool)
    (hs : Same W W') (he : Ext W.heap W'.heap) : s.post enc P f apart fresh handsOn false W args (.bool true) W' := by
  have hW' := hW
  obtain ⟨p, q, hA, hV, hb, hz, hn⟩ := hW
  rw [hv] at hV
  obtain ⟨rfl, rfl⟩ := trodVars_none hV
  have hlt : ∀ x ∈ p, x.block < W.heap.size := fun x hx => hW'.lt x (by rw [hb]; simp [hx])
  have hsame : ∀ x ∈ p, W.sameAt W' x := fun x hx => by
    have hb := he.2 x.block (hlt x hx) (by simp)
    cases x with
    | cell b o => exact World.cell?_of_block (w := W) hb
    | map b => exact hb
  refine ⟨ds, [], before, [], p, [], hW', ?_, ?_, ?_, ?_, fun h => by cases h⟩
  · rw [hr, hres.1]
    exact trodAll_mk1 (shut_bool htb true)
  · rw [hres.2.1]
    exact trodAll_stays hl hp hA hsame fun x hx => by simpa using hlt x hx
  · rw [hres.2.2, hv]
    rfl
  · refine ⟨hs.1, hs.2.2, fun i hi => ?_⟩
    rw [he.2 i hi (by simp)]
    cases W.heap[i]? with
    | none => trivial
    | some x => cases x <;> simp
end
end Go.Proofs.Ytjmhahjmbmiepaa.D
