/- What a law's argument of house steps reads as; the law. -/
import Derived.Test.YtjmhahjmbmiepaaLwB
import Derived.Test.YtjmhahjmbmiepaaHdL
namespace Go.Proofs.Ytjmhahjmbmiepaa.D
open Go Go.ChangeShapes Go.WideShapes Go.ChangeAt Go.RowKit
set_option linter.unusedVariables false
set_option linter.unusedSimpArgs false
section
variable {H : Type} {enc : TypeId × Value → H} {P : Program} {W : World} {sp : Nat → Bool} {held : Bool} {d : DataW H} {ps : List MemPlace} {t e : TypeId} {a : Option Addr} {n c : Nat}
theorem rdHS_of {f0 f1 f2 q0 q1 q2 : Field} {v : TypeId} (ht : P.underlying t = some (.slice e)) (he : P.underlying e = some (.struct #[f0, f1, f2])) (hc : P.cellsOf e = 5) (hv : P.underlying v = some (.struct #[q0, q1, q2])) (hcv : P.cellsOf v = 3)
    {u s : TypeId} (hu : P.underlying u = some (.int .i64)) (hcu : P.cellsOf u = 1) (hs : P.underlying s = some .string) (hcs : P.cellsOf s = 1) (h0 : f0.type = u ∧ f0.offset = 0) (h1 : f1.type = u ∧ f1.offset = 1) (h2 : f2.type = v ∧ f2.offset = 2)
    (g0 : q0.type = s ∧ q0.offset = 0) (g1 : q1.type = u ∧ q1.offset = 1) (g2 : q2.type = u ∧ q2.offset = 2)
    (h : DataW.Trod enc P W 0 sp held t (.slice a n c) d ps) : ∃ xs, RdHS W.heap xs a n := by
  obtain ⟨fuel, hf⟩ := h
  rcases DataW.trod_slice ht hf with ⟨hcs, hx⟩ | ⟨a', len, cap, elems, rest, m, _, hcl, hx, _, hl, hm, hlen, hel, _⟩
  · simp [Value.cells] at hcs
    obtain ⟨rfl, rfl, rfl⟩ := hcs
    exact ⟨[], rfl, by omega, fun i hi => by omega⟩
  · simp [Value.cells] at hcl
    obtain ⟨rfl, rfl, rfl⟩ := hcl
    have each : ∀ i, i < n → ∃ c0 c1 c3 c4 : Int, ∃ c2 : ByteArray, (inI64 c0 ∧ inI64 c1 ∧ inI64 c3 ∧ inI64 c4) ∧ c2.size ≤ maxLen ∧ W.cell? ((a'.add (i * 5)).add 0) = some (.int .i64 c0) ∧ W.cell? ((a'.add (i * 5)).add 1) = some (.int .i64 c1) ∧
        W.cell? ((a'.add (i * 5)).add 2) = some (.string c2) ∧ W.cell? ((a'.add (i * 5)).add 3) = some (.int .i64 c3) ∧ W.cell? ((a'.add (i * 5)).add 4) = some (.int .i64 c4) := by
      intro i hi
      have hE := hel i hi
      have hi2 : i < elems.length := by omega
      rw [List.getElem?_eq_getElem hi2, Option.bind_eq_some_iff] at hE
      obtain ⟨cs, hcs', hy⟩ := hE
      obtain ⟨_, hl4, hcell⟩ := World.cells?_some hcs'
      rw [hc] at hl4 hcell
      obtain ⟨ys, n', _, _, _, hys, hfs⟩ := DataW.trod_struct he hy
      match cs, hl4 with
      | [c0, c1, c2, c3, c4], _ =>
        have hys : ys.length = 3 := hys
        have k0 := hfs 0 f0 rfl
        have k1 := hfs 1 f1 rfl
        have k2 := hfs 2 f2 rfl
        rw [h0.1, h0.2, hcu, List.getElem?_eq_getElem (by omega)] at k0
        rw [h1.1, h1.2, hcu, List.getElem?_eq_getElem (by omega)] at k1
        rw [h2.1, h2.2, hcv, List.getElem?_eq_getElem (by omega)] at k2
        obtain ⟨z0, e0, _, w0⟩ := DataW.trod_int hu k0
        obtain ⟨z1, e1, _, w1⟩ := DataW.trod_int hu k1
        obtain ⟨zs, n2, _, _, _, hzs, hgs⟩ := DataW.trod_struct hv k2
        have hzs : zs.length = 3 := hzs
        have l0 := hgs 0 q0 rfl
        have l1 := hgs 1 q1 rfl
        have l2 := hgs 2 q2 rfl
        rw [g0.1, g0.2, hcs, List.getElem?_eq_getElem (by omega)] at l0
        rw [g1.1, g1.2, hcu, List.getElem?_eq_getElem (by omega)] at l1
        rw [g2.1, g2.2, hcu, List.getElem?_eq_getElem (by omega)] at l2
        obtain ⟨z2, e2, _, w2⟩ := DataW.trod_string hs l0
        obtain ⟨z3, e3, _, w3⟩ := DataW.trod_int hu l1
        obtain ⟨z4, e4, _, w4⟩ := DataW.trod_int hu l2
        simp at e0 e1 e2 e3 e4
        subst e0 e1 e2 e3 e4
        exact ⟨z0, z1, z3, z4, z2, ⟨inI64_of_wf w0, inI64_of_wf w1, inI64_of_wf w3, inI64_of_wf w4⟩, w2, hcell 0 (by omega), hcell 1 (by omega), hcell 2 (by omega), hcell 3 (by omega), hcell 4 (by omega)⟩
    have hsp : 0 < n → a'.spot = none := fun hp => by
      obtain ⟨c0, _, _, _, _, _, _, k0, _⟩ := each 0 hp
      have := World.cell?_spot k0
      simpa [Addr.add] using this
    have step : ∀ i, i < n → ∃ x : HouseStepD, x.ok ∧ x.what.name.size < 9223372036854775808 ∧ cellAt W.heap a'.block (a'.off + i * 5) = some (.int .i64 x.kind) ∧ cellAt W.heap a'.block (a'.off + i * 5 + 1) = some (.int .i64 x.part) ∧
        cellAt W.heap a'.block (a'.off + i * 5 + 2) = some (.string x.what.name) ∧ cellAt W.heap a'.block (a'.off + i * 5 + 3) = some (.int .i64 x.what.at_) ∧ cellAt W.heap a'.block (a'.off + i * 5 + 4) = some (.int .i64 x.what.value) := by
      intro i hi
      obtain ⟨c0, c1, c3, c4, c2, hr, hz, k0, k1, k2, k3, k4⟩ := each i hi
      have hs := hsp (by omega)
      obtain ⟨b, o, s⟩ := a'
      simp only at hs
      subst hs
      have ha : (Addr.add ⟨b, o, none⟩ (i * 5)) = ⟨b, o + i * 5, none⟩ := by
        unfold Addr.add
        split
        · rename_i hz; rw [hz]; rfl
        · rfl
      rw [ha] at k0 k1 k2 k3 k4
      exact ⟨⟨c0, c1, c2, c3, c4⟩, hr, by unfold maxLen at hz; dsimp only; omega, cell_at (a := ⟨b, o + i * 5, none⟩) rfl k0, cell_at (a := ⟨b, o + i * 5, none⟩) rfl k1, cell_at (a := ⟨b, o + i * 5, none⟩) rfl k2, cell_at (a := ⟨b, o + i * 5, none⟩) rfl k3, cell_at (a := ⟨b, o + i * 5, none⟩) rfl k4⟩
    refine ⟨(List.range n).map fun i => if hi : i < n then (step i hi).choose else default, by simp, by unfold maxLen at hm; omega, fun i hi => ?_⟩
    have hx := (step i hi).choose_spec
    have hs := hsp (by omega)
    rw [getD_of default (by simpa using hi)]
    simp only [List.getElem_map, List.getElem_range, hi, ↓reduceDIte]
    exact ⟨a'.block, a'.off, by obtain ⟨b, o, s⟩ := a'; simp only at hs; subst hs; rfl, hx.2.2.1, hx.2.2.2.1, hx.2.2.2.2.1, hx.2.2.2.2.2.1, hx.2.2.2.2.2.2, hx.1, hx.2.1⟩
end

/-! ### The law -/
theorem playPlain_wf (ls : List HouseStepD) : WfH (playPlain ls).1 := by
  unfold playPlain
  split
  · exact WfH.nil 0
  · exact wfF _
theorem szR_few : ∀ (l : List RowD), (∀ r ∈ l, r.samples.length ≤ 40) → szR l ≤ 81 * l.length
  | [], _ => by simp [szR]
  | r :: l, h => by
    have h1 := szR_few l fun x hx => h x (by simp [hx])
    have h2 := h r (by simp)
    simp only [szR, List.length_cons]
    omega
theorem WfH.szR {x : HeadD} (w : WfH x) : szR x.rows ≤ 648 := by
  have := szR_few x.rows fun r hr => (w.full r hr).2
  have := w.few
  omega
theorem RdHS.S {h : Heap} {xs : List HouseStepD} {a : Option Addr} {n : Nat} (r : RdHS h xs a n) (hs : ∀ i, i < n → (xs.getD i default).what.name.size ≤ 1048576) : ∀ s ∈ xs, StepS s := by
  intro s hm
  obtain ⟨i, hi, rfl⟩ := List.getElem_of_mem hm
  rw [← getD_of default hi]
  have hn := r.len
  obtain ⟨b, o, _, _, _, _, _, _, ok, _⟩ := r.at_ i (by omega)
  have := hs i (by omega)
  exact ⟨ok, by omega⟩
section
variable {h : Heap}
theorem FnExactPlayPlain_ok {xs : List HouseStepD} {a : Option Addr} {n c : Nat} (r : RdHS h xs a n) : CallsH PP fn_laws_FnExactPlayPlain [.slice a n c] h fun v h' => v = .bool true ∧ Ext h h' := by
  refine calls_laws_FnExactPlayPlain _ _ _ ?_
  unfold M_laws_FnExactPlayPlain
  refine (szHouseStepS_ok r).mono ?_
  rintro v g0 ⟨z, rfl, f0, hz⟩
  refine ⟨_, rfl, ?_⟩
  (refine br (fun hc => ?_) (fun hc => ?_) <;> (try simp only [decide_eq_true_eq, decide_eq_false_iff_not, beq_iff_eq, bne_iff_ne, ne_eq, Bool.not_eq_true', Bool.not_eq_false', Bool.not_eq_true, Bool.not_eq_false, beq_eq_false_iff_ne, bne_eq_false_iff_eq, Int.not_lt, Int.not_le, gt_iff_lt, ge_iff_le, Decidable.not_not] at hc))
  · exact ⟨rfl, f0⟩
  obtain ⟨hn, hs⟩ := hz hc
  have hl := r.S hs
  have wf := playPlain_wf xs
  have hsz := wf.szR
  have hln := r.len
  have H := Own.start h
  have H := H.ext f0
  refine (toHouseStepS_ok (r.ext H.oldE) hn).mono ?_
  rintro v g1 ⟨a1, rfl, H1⟩
  have H := H.lift1 H1
  refine ⟨_, _, _, rfl, ?_⟩
  refine (spec_PlayPlain_ok hl (H.rd a1 n n)).mono ?_
  rintro v g2 ⟨a2, n2, c2, rfl, H1⟩
  have H := H.lift1 H1
  refine ⟨_, _, _, _, _, rfl, ?_⟩
  refine H.nw fun g3 H => ?_
  refine H.sts (by simp) fun g4 H => ?_
  have H : Own g4 (slA kRw (playPlain xs).1.rows a2 n2 c2 :: rowA g2.size ty_impl_Head [.slice a2 n2 c2, .int .i64 (playPlain xs).1.offset] :: [oldA h]) := H.to (by repeat' (first | exact trivial | exact rfl | omega | (refine ⟨?_, ?_⟩)))
  refine (toHouseStepS_ok (r.ext H.oldE) hn).mono ?_
  rintro v g5 ⟨a3, rfl, H1⟩
  have H := H.lift1 H1
  refine ⟨_, _, _, rfl, ?_⟩
  refine (impl_PlayPlain_ok hl (H.rd a3 n n)).mono ?_
  rintro v g6 ⟨a4, n4, c4, rfl, H1⟩
  have H := H.lift1 H1
  refine ⟨_, _, _, _, _, rfl, ?_⟩
  refine H.nw fun g7 H => ?_
  refine H.sts (by simp) fun g8 H => ?_
  have H : Own g8 (slA kHS xs a3 n n :: slA kRw (playPlain xs).1.rows a4 n4 c4 :: rowA g6.size ty_impl_Head [.slice a4 n4 c4, .int .i64 (playPlain xs).1.offset] :: slA kRw (playPlain xs).1.rows a2 n2 c2 :: rowA g2.size ty_impl_Head [.slice a2 n2 c2, .int .i64 (playPlain xs).1.offset] :: [oldA h]) := H.to (by repeat' (first | exact trivial | exact rfl | omega | (refine ⟨?_, ?_⟩)))
  repeat' (first | (first | refine ldI (by first | assumption | exact H.ld (by rfl) | exact H.ldO (by assumption)) ?_ | refine ldS (by first | assumption | exact H.ld (by rfl) | exact H.ldO (by assumption)) ?_ | refine ldB (by first | assumption | exact H.ld (by rfl) | exact H.ldO (by assumption)) ?_ | refine ldT (by first | assumption | exact H.ld (by rfl) | exact H.ldO (by assumption)) ?_ | refine re1 (by first | assumption | exact H.ld (by rfl) | exact H.ldO (by assumption)) ?_ | fail) | fail)
  refine (eqHead_ok (H.rd a4 n4 c4) (H.rd a2 n2 c2)).mono ?_
  rintro v g9 ⟨rfl, f⟩
  have H := H.ext f
  refine ⟨_, rfl, ?_⟩
  (refine br (fun hc => ?_) (fun hc => ?_) <;> (try simp only [decide_eq_true_eq, decide_eq_false_iff_not, beq_iff_eq, bne_iff_ne, ne_eq, Bool.not_eq_true', Bool.not_eq_false', Bool.not_eq_true, Bool.not_eq_false, beq_eq_false_iff_ne, bne_eq_false_iff_eq, Int.not_lt, Int.not_le, gt_iff_lt, ge_iff_le, Decidable.not_not] at hc))
  rotate_left
  · simp at hc
  (refine br (fun hc => ?_) (fun hc => ?_) <;> (try simp only [decide_eq_true_eq, decide_eq_false_iff_not, beq_iff_eq, bne_iff_ne, ne_eq, Bool.not_eq_true', Bool.not_eq_false', Bool.not_eq_true, Bool.not_eq_false, beq_eq_false_iff_ne, bne_eq_false_iff_eq, Int.not_lt, Int.not_le, gt_iff_lt, ge_iff_le, Decidable.not_not] at hc))
  · simp at hc
  refine (toHouseStepS_ok (r.ext H.oldE) hn).mono ?_
  rintro v g10 ⟨a5, rfl, H1⟩
  have H := H.lift1 H1
  refine ⟨_, _, _, rfl, ?_⟩
  refine (eqHouseStepS_ok (H.rd a3 n n) (H.rd a5 n n)).mono ?_
  rintro v g11 ⟨rfl, f⟩
  have H := H.ext f
  refine ⟨_, rfl, ?_⟩
  (refine br (fun hc => ?_) (fun hc => ?_) <;> (try simp only [decide_eq_true_eq, decide_eq_false_iff_not, beq_iff_eq, bne_iff_ne, ne_eq, Bool.not_eq_true', Bool.not_eq_false', Bool.not_eq_true, Bool.not_eq_false, beq_eq_false_iff_ne, bne_eq_false_iff_eq, Int.not_lt, Int.not_le, gt_iff_lt, ge_iff_le, Decidable.not_not] at hc))
  · simp at hc
  have H : Own g11 (slA kHS xs a3 n n :: slA kRw (playPlain xs).1.rows a4 n4 c4 :: rowA g6.size ty_impl_Head [.slice a4 n4 c4, .int .i64 (playPlain xs).1.offset] :: slA kRw (playPlain xs).1.rows a2 n2 c2 :: rowA g2.size ty_impl_Head [.slice a2 n2 c2, .int .i64 (playPlain xs).1.offset] :: [oldA h]) := H.to (by repeat' (first | exact trivial | exact rfl | omega | (refine ⟨?_, ?_⟩)))
  refine (markHouseStepS_ok H (by omega) (by omega)).mono ?_
  rintro v g12 ⟨rfl, H⟩
  refine ⟨_, rfl, ?_⟩
  (refine br (fun hc => ?_) (fun hc => ?_) <;> (try simp only [decide_eq_true_eq, decide_eq_false_iff_not, beq_iff_eq, bne_iff_ne, ne_eq, Bool.not_eq_true', Bool.not_eq_false', Bool.not_eq_true, Bool.not_eq_false, beq_eq_false_iff_ne, bne_eq_false_iff_eq, Int.not_lt, Int.not_le, gt_iff_lt, ge_iff_le, Decidable.not_not] at hc))
  rotate_left
  · omega
  repeat' (first | (first | refine ldI (by first | assumption | exact H.ld (by rfl) | exact H.ldO (by assumption)) ?_ | refine ldS (by first | assumption | exact H.ld (by rfl) | exact H.ldO (by assumption)) ?_ | refine ldB (by first | assumption | exact H.ld (by rfl) | exact H.ldO (by assumption)) ?_ | refine ldT (by first | assumption | exact H.ld (by rfl) | exact H.ldO (by assumption)) ?_ | refine re1 (by first | assumption | exact H.ld (by rfl) | exact H.ldO (by assumption)) ?_ | fail) | fail)
  refine (eqHead_ok (H.rd a4 n4 c4) (H.rd a2 n2 c2)).mono ?_
  rintro v g13 ⟨rfl, f⟩
  have H := H.ext f
  refine ⟨_, rfl, ?_⟩
  (refine br (fun hc => ?_) (fun hc => ?_) <;> (try simp only [decide_eq_true_eq, decide_eq_false_iff_not, beq_iff_eq, bne_iff_ne, ne_eq, Bool.not_eq_true', Bool.not_eq_false', Bool.not_eq_true, Bool.not_eq_false, beq_eq_false_iff_ne, bne_eq_false_iff_eq, Int.not_lt, Int.not_le, gt_iff_lt, ge_iff_le, Decidable.not_not] at hc))
  rotate_left
  · simp at hc
  (refine br (fun hc => ?_) (fun hc => ?_) <;> (try simp only [decide_eq_true_eq, decide_eq_false_iff_not, beq_iff_eq, bne_iff_ne, ne_eq, Bool.not_eq_true', Bool.not_eq_false', Bool.not_eq_true, Bool.not_eq_false, beq_eq_false_iff_ne, bne_eq_false_iff_eq, Int.not_lt, Int.not_le, gt_iff_lt, ge_iff_le, Decidable.not_not] at hc))
  · simp at hc
  repeat' (first | (first | refine ldI (by first | assumption | exact H.ld (by rfl) | exact H.ldO (by assumption)) ?_ | refine ldS (by first | assumption | exact H.ld (by rfl) | exact H.ldO (by assumption)) ?_ | refine ldB (by first | assumption | exact H.ld (by rfl) | exact H.ldO (by assumption)) ?_ | refine ldT (by first | assumption | exact H.ld (by rfl) | exact H.ldO (by assumption)) ?_ | refine re1 (by first | assumption | exact H.ld (by rfl) | exact H.ldO (by assumption)) ?_ | fail) | fail)
  refine (markHead_ok H (by omega) (by omega)).mono ?_
  rintro v g14 ⟨rfl, H⟩
  refine ⟨_, rfl, ?_⟩
  repeat' (first | (first | refine ldI (by first | assumption | exact H.ld (by rfl) | exact H.ldO (by assumption)) ?_ | refine ldS (by first | assumption | exact H.ld (by rfl) | exact H.ldO (by assumption)) ?_ | refine ldB (by first | assumption | exact H.ld (by rfl) | exact H.ldO (by assumption)) ?_ | refine ldT (by first | assumption | exact H.ld (by rfl) | exact H.ldO (by assumption)) ?_ | refine re1 (by first | assumption | exact H.ld (by rfl) | exact H.ldO (by assumption)) ?_ | fail) | fail)
  refine (heldHead_ok (x := (playPlain xs).1) (H.rd a4 n4 c4) (by omega) (by omega)).mono ?_
  rintro v g15 ⟨rfl, f⟩
  have H := H.ext f
  refine ⟨_, rfl, ?_⟩
  (refine br (fun hc => ?_) (fun hc => ?_) <;> (try simp only [decide_eq_true_eq, decide_eq_false_iff_not, beq_iff_eq, bne_iff_ne, ne_eq, Bool.not_eq_true', Bool.not_eq_false', Bool.not_eq_true, Bool.not_eq_false, beq_eq_false_iff_ne, bne_eq_false_iff_eq, Int.not_lt, Int.not_le, gt_iff_lt, ge_iff_le, Decidable.not_not] at hc))
  · omega
  (refine br (fun hc => ?_) (fun hc => ?_) <;> (try simp only [decide_eq_true_eq, decide_eq_false_iff_not, beq_iff_eq, bne_iff_ne, ne_eq, Bool.not_eq_true', Bool.not_eq_false', Bool.not_eq_true, Bool.not_eq_false, beq_eq_false_iff_ne, bne_eq_false_iff_eq, Int.not_lt, Int.not_le, gt_iff_lt, ge_iff_le, Decidable.not_not] at hc))
  · exact absurd trivial hc
  refine (toHouseStepS_ok (r.ext H.oldE) hn).mono ?_
  rintro v g16 ⟨a6, rfl, H1⟩
  have H := H.lift1 H1
  refine ⟨_, _, _, rfl, ?_⟩
  refine (impl_PlayPlain_ok hl (H.rd a6 n n)).mono ?_
  rintro v g17 ⟨a7, n7, c7, rfl, H1⟩
  have H := H.lift1 H1
  refine ⟨_, _, _, _, _, rfl, ?_⟩
  refine H.nw fun g18 H => ?_
  refine H.sts (by simp) fun g19 H => ?_
  have H : Own g19 (slA kRw (playPlain xs).1.rows a7 n7 c7 :: rowA g17.size ty_impl_Head [.slice a7 n7 c7, .int .i64 (playPlain xs).1.offset] :: slA kRw (mkR 1 (playPlain xs).1.rows) a4 n4 c4 :: rowA g6.size ty_impl_Head [.slice a4 n4 c4, .int .i64 (playPlain xs).1.offset] :: slA kRw (playPlain xs).1.rows a2 n2 c2 :: rowA g2.size ty_impl_Head [.slice a2 n2 c2, .int .i64 (playPlain xs).1.offset] :: [oldA h]) := H.to (by repeat' (first | exact trivial | exact rfl | omega | (refine ⟨?_, ?_⟩)))
  repeat' (first | (first | refine ldI (by first | assumption | exact H.ld (by rfl) | exact H.ldO (by assumption)) ?_ | refine ldS (by first | assumption | exact H.ld (by rfl) | exact H.ldO (by assumption)) ?_ | refine ldB (by first | assumption | exact H.ld (by rfl) | exact H.ldO (by assumption)) ?_ | refine ldT (by first | assumption | exact H.ld (by rfl) | exact H.ldO (by assumption)) ?_ | refine re1 (by first | assumption | exact H.ld (by rfl) | exact H.ldO (by assumption)) ?_ | fail) | fail)
  refine (eqHead_ok (H.rd a7 n7 c7) (H.rd a2 n2 c2)).mono ?_
  rintro v g20 ⟨rfl, f⟩
  have H := H.ext f
  refine ⟨_, rfl, ?_⟩
  (refine br (fun hc => ?_) (fun hc => ?_) <;> (try simp only [decide_eq_true_eq, decide_eq_false_iff_not, beq_iff_eq, bne_iff_ne, ne_eq, Bool.not_eq_true', Bool.not_eq_false', Bool.not_eq_true, Bool.not_eq_false, beq_eq_false_iff_ne, bne_eq_false_iff_eq, Int.not_lt, Int.not_le, gt_iff_lt, ge_iff_le, Decidable.not_not] at hc))
  rotate_left
  · simp at hc
  (refine br (fun hc => ?_) (fun hc => ?_) <;> (try simp only [decide_eq_true_eq, decide_eq_false_iff_not, beq_iff_eq, bne_iff_ne, ne_eq, Bool.not_eq_true', Bool.not_eq_false', Bool.not_eq_true, Bool.not_eq_false, beq_eq_false_iff_ne, bne_eq_false_iff_eq, Int.not_lt, Int.not_le, gt_iff_lt, ge_iff_le, Decidable.not_not] at hc))
  · simp at hc
  repeat' (first | (first | refine ldI (by first | assumption | exact H.ld (by rfl) | exact H.ldO (by assumption)) ?_ | refine ldS (by first | assumption | exact H.ld (by rfl) | exact H.ldO (by assumption)) ?_ | refine ldB (by first | assumption | exact H.ld (by rfl) | exact H.ldO (by assumption)) ?_ | refine ldT (by first | assumption | exact H.ld (by rfl) | exact H.ldO (by assumption)) ?_ | refine re1 (by first | assumption | exact H.ld (by rfl) | exact H.ldO (by assumption)) ?_ | fail) | fail)
  refine (heldHead_ok (x := (playPlain xs).1) (H.rd a4 n4 c4) (by omega) (by omega)).mono ?_
  rintro v g21 ⟨rfl, f⟩
  have H := H.ext f
  refine ⟨_, rfl, ?_⟩
  (refine br (fun hc => ?_) (fun hc => ?_) <;> (try simp only [decide_eq_true_eq, decide_eq_false_iff_not, beq_iff_eq, bne_iff_ne, ne_eq, Bool.not_eq_true', Bool.not_eq_false', Bool.not_eq_true, Bool.not_eq_false, beq_eq_false_iff_ne, bne_eq_false_iff_eq, Int.not_lt, Int.not_le, gt_iff_lt, ge_iff_le, Decidable.not_not] at hc))
  · omega
  (refine br (fun hc => ?_) (fun hc => ?_) <;> (try simp only [decide_eq_true_eq, decide_eq_false_iff_not, beq_iff_eq, bne_iff_ne, ne_eq, Bool.not_eq_true', Bool.not_eq_false', Bool.not_eq_true, Bool.not_eq_false, beq_eq_false_iff_ne, bne_eq_false_iff_eq, Int.not_lt, Int.not_le, gt_iff_lt, ge_iff_le, Decidable.not_not] at hc))
  · exact absurd trivial hc
  exact ⟨rfl, H.oldE⟩
end
end Go.Proofs.Ytjmhahjmbmiepaa.D
