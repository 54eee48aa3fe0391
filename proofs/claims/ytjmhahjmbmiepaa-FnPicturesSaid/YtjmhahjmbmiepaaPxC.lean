/- Contracts: sums of a bank, its picture, a step on a copy. -/
import Derived.Test.YtjmhahjmbmiepaaPxB
namespace Go.Proofs.Ytjmhahjmbmiepaa.D
open Go
set_option linter.unusedVariables false
set_option linter.unusedSimpArgs false

section
variable {h : Heap} {n : Nat} {T : Int} {x : BankD} {d : BankH}

theorem GrowNil {m : Int} (h0 : 0 ≤ m) (hm : m ≤ 536870912) : CallsH PP fn_slices_Grow_int [.slice none 0 0, .int .i64 m] h fun v h' => ∃ a' c', v = .slice a' 0 c' ∧ Own h' [slA kI [] a' 0 c', oldA h] := by
  refine calls_slices_Grow_int _ _ _ _ ?_
  unfold M_slices_Grow_int
  have H := Own.start h
  have e1 : IntKind.i64.wrap (((0 : Nat) : Int) - ((0 : Nat) : Int)) = 0 := by decide
  have e2 : IntKind.i64.wrap (m - 0) = m := by rw [wrap64_of (by omega) (by omega)]; omega
  rw [e1, e2]
  (refine br (fun hc => ?_) (fun hc => ?_) <;> (try simp only [decide_eq_true_eq, decide_eq_false_iff_not, beq_iff_eq, bne_iff_ne, ne_eq, Bool.not_eq_true', Bool.not_eq_false', Bool.not_eq_true, Bool.not_eq_false, beq_eq_false_iff_ne, bne_eq_false_iff_eq, Int.not_lt, Int.not_le, gt_iff_lt, ge_iff_le, Decidable.not_not] at hc))
  · omega
  (refine br (fun hc => ?_) (fun hc => ?_) <;> (try simp only [decide_eq_true_eq, decide_eq_false_iff_not, beq_iff_eq, bne_iff_ne, ne_eq, Bool.not_eq_true', Bool.not_eq_false', Bool.not_eq_true, Bool.not_eq_false, beq_eq_false_iff_ne, bne_eq_false_iff_eq, Int.not_lt, Int.not_le, gt_iff_lt, ge_iff_le, Decidable.not_not] at hc))
  · refine ⟨by omega, by omega, by omega, ?_⟩
    refine H.appendZ0 (k := kI) (z := 0) (fun g => repI g) (by omega) (by omega) fun a' c' h' H => ?_
    have H := H.takeTo (m := 0) (by omega)
    refine ⟨by omega, by omega, by omega, a', c', rfl, H⟩
  · exact ⟨_, _, rfl, H.slNil kI⟩

theorem total_snoc {α : Type} {xss : List (List α)} {i : Nat} (hi : i < xss.length) : total (xss.take (i + 1)) = total (xss.take i) + (xss.getD i []).length := by
  rw [total_take xss i hi, getD_of [] hi]
theorem flat_snoc {α : Type} {xss : List (List α)} {i : Nat} (hi : i < xss.length) : (xss.take i).flatten ++ xss.getD i [] = (xss.take (i + 1)).flatten := by
  rw [List.take_succ_eq_append_getElem hi, List.flatten_append, getD_of [] hi]; simp
theorem flat_len {α : Type} : ∀ {xss : List (List α)}, xss.flatten.length = total xss
  | [] => rfl
  | x :: xs => by rw [List.flatten_cons, List.length_append, flat_len]; rfl
theorem Concat_ok {xss : List (List Int)} {a : Option Addr} {n c : Nat} (r : SlR kIS h xss a n c) (hb : total xss ≤ 536870912) :
    CallsH PP fn_slices_Concat_int [.slice a n c] h fun v h' => ∃ a' n' c', v = .slice a' n' c' ∧ Own h' [slA kI xss.flatten a' n' c', oldA h] := by
  refine calls_slices_Concat_int _ _ _ ?_
  unfold M_slices_Concat_int
  have hl := r.len
  have hle := total_le xss
  refine ⟨UpK n fun i k g => g = h ∧ k = total (xss.take i), UpKM n, UpK.start ⟨rfl, rfl⟩, ?_⟩
  intro g k y hI
  obtain ⟨i, hi, rfl, rfl, rfl⟩ := hI.elim
  have h1 := hle i
  (refine br (fun hc => ?_) (fun hc => ?_) <;> (try simp only [decide_eq_true_eq, decide_eq_false_iff_not, beq_iff_eq, bne_iff_ne, ne_eq, Bool.not_eq_true', Bool.not_eq_false', Bool.not_eq_true, Bool.not_eq_false, beq_eq_false_iff_ne, bne_eq_false_iff_eq, Int.not_lt, Int.not_le, gt_iff_lt, ge_iff_le, Decidable.not_not] at hc))
  · have hi : i < n := by omega
    have e := total_snoc (xss := xss) (i := i) (by omega)
    have h2 := hle (i + 1)
    (first | refine SlR.nxI (by assumption) (by first | omega | assumption) fun b_ o_ e_ r_ => ?_ | refine SlR.nxB (by assumption) (by first | omega | assumption) fun b_ o_ e_ => ?_ | refine SlR.nxS (by assumption) (by first | omega | assumption) fun b_ o_ a_ n_ c_ e_ s_ l_ => ?_ | refine SlR.ixI (by assumption) (by first | omega | assumption) (by first | omega | assumption) fun b_ o_ e_ r_ => ?_ | refine SlR.ixB (by assumption) (by first | omega | assumption) (by first | omega | assumption) fun b_ o_ e_ => ?_ | refine SlR.ixS (by assumption) (by first | omega | assumption) (by first | omega | assumption) fun b_ o_ a_ n_ c_ e_ s_ => ?_ | fail)
    (first | refine ldI (by first | assumption | exact H.ld (by rfl) | exact H.ldO (by assumption)) ?_ | refine ldS (by first | assumption | exact H.ld (by rfl) | exact H.ldO (by assumption)) ?_ | refine ldB (by first | assumption | exact H.ld (by rfl) | exact H.ldO (by assumption)) ?_ | refine ldT (by first | assumption | exact H.ld (by rfl) | exact H.ldO (by assumption)) ?_ | refine re1 (by first | assumption | exact H.ld (by rfl) | exact H.ldO (by assumption)) ?_ | fail)
    rw [wrap64_of (by omega) (by omega)]
    (refine br (fun hc => ?_) (fun hc => ?_) <;> (try simp only [decide_eq_true_eq, decide_eq_false_iff_not, beq_iff_eq, bne_iff_ne, ne_eq, Bool.not_eq_true', Bool.not_eq_false', Bool.not_eq_true, Bool.not_eq_false, beq_eq_false_iff_ne, bne_eq_false_iff_eq, Int.not_lt, Int.not_le, gt_iff_lt, ge_iff_le, Decidable.not_not] at hc))
    · omega
    · exact UpK.next (by omega) hi ⟨rfl, by omega⟩
  · have hin : i = n := by omega
    rw [hin, List.take_of_length_le (by omega)] at h1 ⊢
    refine (GrowNil (by omega) (by omega)).mono ?_
    rintro v g1 ⟨a1, c1, rfl, H⟩
    refine ⟨_, _, _, rfl, UpS n fun i a m c g' => Own g' [slA kI (xss.take i).flatten a m c, oldA g], UpKM n, UpS.start H, ?_⟩
    intro g2 a2 n2 c2 y hI
    obtain ⟨j, hj, rfl, H⟩ := hI.elim
    (refine br (fun hc => ?_) (fun hc => ?_) <;> (try simp only [decide_eq_true_eq, decide_eq_false_iff_not, beq_iff_eq, bne_iff_ne, ne_eq, Bool.not_eq_true', Bool.not_eq_false', Bool.not_eq_true, Bool.not_eq_false, beq_eq_false_iff_ne, bne_eq_false_iff_eq, Int.not_lt, Int.not_le, gt_iff_lt, ge_iff_le, Decidable.not_not] at hc))
    · have hj : j < n := by omega
      have e := total_snoc (xss := xss) (i := j) (by omega)
      have h2 := hle (j + 1)
      have l2 := (H.len m0).1
      rw [flat_len] at l2
      (first | refine SlR.nxI (by assumption) (by first | omega | assumption) fun b_ o_ e_ r_ => ?_ | refine SlR.nxB (by assumption) (by first | omega | assumption) fun b_ o_ e_ => ?_ | refine SlR.nxS (by assumption) (by first | omega | assumption) fun b_ o_ a_ n_ c_ e_ s_ l_ => ?_ | refine SlR.ixI (by assumption) (by first | omega | assumption) (by first | omega | assumption) fun b_ o_ e_ r_ => ?_ | refine SlR.ixB (by assumption) (by first | omega | assumption) (by first | omega | assumption) fun b_ o_ e_ => ?_ | refine SlR.ixS (by assumption) (by first | omega | assumption) (by first | omega | assumption) fun b_ o_ a_ n_ c_ e_ s_ => ?_ | fail)
      (first | refine ldI (by first | assumption | exact H.ld (by rfl) | exact H.ldO (by assumption)) ?_ | refine ldS (by first | assumption | exact H.ld (by rfl) | exact H.ldO (by assumption)) ?_ | refine ldB (by first | assumption | exact H.ld (by rfl) | exact H.ldO (by assumption)) ?_ | refine ldT (by first | assumption | exact H.ld (by rfl) | exact H.ldO (by assumption)) ?_ | refine re1 (by first | assumption | exact H.ld (by rfl) | exact H.ldO (by assumption)) ?_ | fail)
      refine H.apR (s_.ext H.oldE) (flatI _) (by omega) fun a3 c3 g3 H => ?_
      rw [flat_snoc (by omega)] at H
      exact UpS.next (by omega) hj H
    · have hjn : j = n := by omega
      rw [hjn, List.take_of_length_le (by omega)] at H
      exact ⟨_, _, _, rfl, H⟩

/-! ### Sums -/

theorem lsum_snoc {xs : List Int} {i : Nat} (hi : i < xs.length) : lsum (xs.take (i + 1)) = lsum (xs.take i) + xs.getD i 0 := by
  rw [List.take_succ_eq_append_getElem hi, lsum_append, getD_of 0 hi]; simp [lsum]
theorem lsum_bound {B : Int} (hB : 0 ≤ B) : ∀ {l : List Int}, (∀ m ∈ l, -B ≤ m ∧ m ≤ B) → -(B * l.length) ≤ lsum l ∧ lsum l ≤ B * l.length
  | [], _ => by simp [lsum]
  | y :: l, h => by
    have h1 := h y (by simp)
    have h2 := lsum_bound hB (l := l) fun m hm => h m (by simp [hm])
    simp only [lsum, List.length_cons]
    have e : B * ((l.length + 1 : Nat) : Int) = B * l.length + B := by rw [Int.natCast_add, Int.mul_add]; simp
    rw [e]; omega
theorem sumN_list : ∀ {l : List Int}, lsum l = sumN (fun k => l.getD k 0) l.length := by
  intro l
  have key : ∀ m, m ≤ l.length → lsum (l.take m) = sumN (fun k => l.getD k 0) m := by
    intro m
    induction m with
    | zero => intro _; rfl
    | succ m ih => intro hm; rw [lsum_snoc (by omega), ih (by omega)]; rfl
  have := key l.length (Nat.le_refl _)
  rwa [List.take_length] at this
theorem lsum_flat : ∀ {l : List (List Int)}, lsum l.flatten = sumN (fun k => lsum (l.getD k [])) l.length := by
  intro l
  have key : ∀ m, m ≤ l.length → lsum (l.take m).flatten = sumN (fun k => lsum (l.getD k [])) m := by
    intro m
    induction m with
    | zero => intro _; rfl
    | succ m ih => intro hm; rw [← flat_snoc (by omega), lsum_append, ih (by omega)]; rfl
  have := key l.length (Nat.le_refl _)
  rwa [List.take_length] at this
theorem sumN_add (f : Nat → Int) (m : Nat) : ∀ n, sumN f (m + n) = sumN f m + sumN (fun j => f (m + j)) n
  | 0 => by simp [sumN]
  | n + 1 => by
    show sumN f (m + n) + f (m + n) = sumN f m + (sumN (fun j => f (m + j)) n + f (m + n))
    rw [sumN_add f m n]; omega
theorem sumN_mul (f : Nat → Int) (m : Nat) : ∀ n, sumN f (n * m) = sumN (fun i => sumN (fun j => f (i * m + j)) m) n
  | 0 => by rw [Nat.zero_mul]; rfl
  | n + 1 => by rw [Nat.succ_mul, sumN_add, sumN_mul f m n]; rfl

/-- The loop that adds. -/
theorem lsum_part {zs : List Int} (hB : ∀ m ∈ zs, -1000 ≤ m ∧ m ≤ 1000) (i : Nat) (hl : zs.length ≤ 1073741824) : -1100000000000 ≤ lsum (zs.take i) ∧ lsum (zs.take i) ≤ 1100000000000 := by
  have := lsum_bound (B := 1000) (by omega) (l := zs.take i) fun m hm => hB m (List.mem_of_mem_take hm)
  have h2 : (zs.take i).length ≤ zs.length := by rw [List.length_take]; omega
  omega
theorem getD_mem {α : Type} {l : List α} {i : Nat} (d : α) (h : i < l.length) : l.getD i d ∈ l := by rw [getD_of d h]; exact List.getElem_mem _
theorem mem_getD {α : Type} {l : List α} {y : α} (d : α) (h : y ∈ l) : ∃ i, i < l.length ∧ y = l.getD i d := by
  obtain ⟨i, hi, rfl⟩ := List.getElem_of_mem h
  exact ⟨i, hi, (getD_of d hi).symm⟩

theorem Inv.ways_mem (v : Inv n T x) : ∀ l ∈ x.ways, ∀ m ∈ l, 0 ≤ m ∧ m ≤ 50 := by
  intro l hl m hm
  obtain ⟨i, wf⟩ := v.wf
  obtain ⟨j, hj, rfl⟩ := mem_getD [] hl
  rw [wf.ways] at hj
  have hn := wf.pos
  have h1 : j / n < n := Nat.div_lt_of_lt_mul hj
  have h2 : j % n < n := Nat.mod_lt _ hn
  have := v.it (j / n) (j % n) h1 h2 m (by unfold BankD.w; rw [Nat.div_add_mod']; exact hm)
  exact this
theorem Inv.found_mem (v : Inv n T x) : ∀ l ∈ x.found, ∀ m ∈ l, 0 ≤ m ∧ m ≤ 1000 := by
  intro l hl m hm
  obtain ⟨i, wf⟩ := v.wf
  obtain ⟨j, hj, rfl⟩ := mem_getD [] hl
  obtain ⟨t, ht, rfl⟩ := mem_getD 0 hm
  rw [wf.found] at hj
  rw [wf.frow j hj] at ht
  have h1 := v.fd0 j t hj ht
  have h2 := v.fd_le hj ht
  have := v.T0
  unfold BankD.fd at h1 h2
  omega
theorem Inv.coins_mem (v : Inv n T x) : ∀ m ∈ x.coins, 0 ≤ m ∧ m ≤ 1000 := by
  intro m hm
  obtain ⟨i, wf⟩ := v.wf
  obtain ⟨j, hj, rfl⟩ := mem_getD 0 hm
  rw [wf.coins] at hj
  have h1 := v.c0 j hj
  have h2 := v.c_le hj
  have := v.T0
  unfold BankD.c at h1 h2
  omega
theorem Inv.kept_mem (v : Inv n T x) : ∀ m ∈ x.kept, -1000 ≤ m ∧ m ≤ 1000 := by
  intro m hm
  obtain ⟨i, wf⟩ := v.wf
  obtain ⟨j, hj, rfl⟩ := mem_getD 0 hm
  rw [wf.kept] at hj
  have h1 := v.kp1 j hj
  have h2 := v.kp_le hj
  have := v.T0
  unfold BankD.kp at h1 h2
  omega
theorem Inv.total_ways (v : Inv n T x) : total x.ways ≤ 1000 := by
  obtain ⟨i, wf⟩ := v.wf
  have hn := wf.le
  have hnn := mul_le5 hn
  have : total x.ways ≤ x.ways.length * 40 := by
    refine total_bound fun j => ?_
    rcases Nat.lt_or_ge j (n * n) with hj | hj
    · have h1 : j / n < n := Nat.div_lt_of_lt_mul hj
      have h2 : j % n < n := Nat.mod_lt _ wf.pos
      have := v.len (j / n) (j % n) h1 h2
      unfold BankD.w at this
      rw [Nat.div_add_mod'] at this
      split at this <;> omega
    · rw [List.getD_eq_getElem?_getD, List.getElem?_eq_none (by rw [wf.ways]; exact hj)]; simp
  rw [wf.ways] at this
  omega
theorem Inv.total_found (v : Inv n T x) : total x.found ≤ 1000 := by
  obtain ⟨i, wf⟩ := v.wf
  have hn := wf.le
  have : total x.found ≤ x.found.length * 5 := by
    refine total_bound fun j => ?_
    rcases Nat.lt_or_ge j n with hj | hj
    · rw [wf.frow j hj]; exact hn
    · rw [List.getD_eq_getElem?_getD, List.getElem?_eq_none (by rw [wf.found]; exact hj)]; simp
  rw [wf.found] at this
  omega
theorem Inv.sumT (v : Inv n T x) : lsum ([x.coins, x.ways.flatten].flatten) = T := by
  obtain ⟨i, wf⟩ := v.wf
  simp only [List.flatten_cons, List.flatten_nil, List.append_nil, lsum_append]
  rw [sumN_list, wf.coins, lsum_flat, wf.ways, sumN_mul]
  exact v.tot
theorem Inv.sumP (v : Inv n T x) : lsum ([x.kept, x.found.flatten].flatten) = sumN x.kp n + sum2 x.fd n := by
  obtain ⟨i, wf⟩ := v.wf
  simp only [List.flatten_cons, List.flatten_nil, List.append_nil, lsum_append]
  rw [sumN_list, wf.kept, lsum_flat, wf.found]
  congr 1
  refine sumN_congr fun f hf => ?_
  rw [sumN_list, wf.frow f hf]
  rfl

theorem TotalIn_ok (v : Inv n T x) (r : BankR h x d) : CallsH PP fn_impl_TotalIn [.agg ⟨d.cells⟩] h fun v h' => v = .tuple ⟨[.int .i64 T, .bool true]⟩ ∧ Ext h h' := by
  refine calls_impl_TotalIn _ _ _ _ _ _ _ _ _ _ _ _ _ _ _ ?_
  unfold M_impl_TotalIn
  obtain ⟨i, wf⟩ := v.wf
  have H := Own.start h
  have r1 := r.s1
  have r0 := r.s0
  repeat' (first | (first | ((refine (within_ok _ _ _).mono ?_; rintro v_ g_ ⟨rfl, rfl⟩; refine ⟨_, rfl, ?_⟩)) | (first | refine ldI (by first | assumption | exact H.ld (by rfl) | exact H.ldO (by assumption)) ?_ | refine ldS (by first | assumption | exact H.ld (by rfl) | exact H.ldO (by assumption)) ?_ | refine ldB (by first | assumption | exact H.ld (by rfl) | exact H.ldO (by assumption)) ?_ | refine ldT (by first | assumption | exact H.ld (by rfl) | exact H.ldO (by assumption)) ?_ | refine re1 (by first | assumption | exact H.ld (by rfl) | exact H.ldO (by assumption)) ?_ | fail) | (first | refine SlR.nxI (by assumption) (by first | omega | assumption) fun b_ o_ e_ r_ => ?_ | refine SlR.nxB (by assumption) (by first | omega | assumption) fun b_ o_ e_ => ?_ | refine SlR.nxS (by assumption) (by first | omega | assumption) fun b_ o_ a_ n_ c_ e_ s_ l_ => ?_ | refine SlR.ixI (by assumption) (by first | omega | assumption) (by first | omega | assumption) fun b_ o_ e_ r_ => ?_ | refine SlR.ixB (by assumption) (by first | omega | assumption) (by first | omega | assumption) fun b_ o_ e_ => ?_ | refine SlR.ixS (by assumption) (by first | omega | assumption) (by first | omega | assumption) fun b_ o_ a_ n_ c_ e_ s_ => ?_ | fail) | (refine br (fun hc => ?_) (fun hc => ?_) <;> (try simp only [decide_eq_true_eq, decide_eq_false_iff_not, beq_iff_eq, bne_iff_ne, ne_eq, Bool.not_eq_true', Bool.not_eq_false', Bool.not_eq_true, Bool.not_eq_false, beq_eq_false_iff_ne, bne_eq_false_iff_eq, Int.not_lt, Int.not_le, gt_iff_lt, ge_iff_le, Decidable.not_not] at hc)) | (refine H.nw fun g_ H => ?_) | fail) | fail)
  refine (isBank_ok v (r.ext H.oldE)).mono ?_
  rintro v_ g_ ⟨rfl, f⟩
  have H := H.ext f
  refine ⟨_, rfl, ?_⟩
  (refine br (fun hc => ?_) (fun hc => ?_) <;> (try simp only [decide_eq_true_eq, decide_eq_false_iff_not, beq_iff_eq, bne_iff_ne, ne_eq, Bool.not_eq_true', Bool.not_eq_false', Bool.not_eq_true, Bool.not_eq_false, beq_eq_false_iff_ne, bne_eq_false_iff_eq, Int.not_lt, Int.not_le, gt_iff_lt, ge_iff_le, Decidable.not_not] at hc))
  · cases hc
  (first | refine ldI (by first | assumption | exact H.ld (by rfl) | exact H.ldO (by assumption)) ?_ | refine ldS (by first | assumption | exact H.ld (by rfl) | exact H.ldO (by assumption)) ?_ | refine ldB (by first | assumption | exact H.ld (by rfl) | exact H.ldO (by assumption)) ?_ | refine ldT (by first | assumption | exact H.ld (by rfl) | exact H.ldO (by assumption)) ?_ | refine re1 (by first | assumption | exact H.ld (by rfl) | exact H.ldO (by assumption)) ?_ | fail)
  (first | refine ldI (by first | assumption | exact H.ld (by rfl) | exact H.ldO (by assumption)) ?_ | refine ldS (by first | assumption | exact H.ld (by rfl) | exact H.ldO (by assumption)) ?_ | refine ldB (by first | assumption | exact H.ld (by rfl) | exact H.ldO (by assumption)) ?_ | refine ldT (by first | assumption | exact H.ld (by rfl) | exact H.ldO (by assumption)) ?_ | refine re1 (by first | assumption | exact H.ld (by rfl) | exact H.ldO (by assumption)) ?_ | fail)
  have t1 := v.total_ways
  refine (Concat_ok (r1.ext H.oldE) (by omega)).mono ?_
  rintro v_ g1 ⟨a1, n1, c1, rfl, H1⟩
  have H := H.lift1 H1
  refine ⟨_, _, _, rfl, ?_⟩
  (first | refine ldI (by first | assumption | exact H.ld (by rfl) | exact H.ldO (by assumption)) ?_ | refine ldS (by first | assumption | exact H.ld (by rfl) | exact H.ldO (by assumption)) ?_ | refine ldB (by first | assumption | exact H.ld (by rfl) | exact H.ldO (by assumption)) ?_ | refine ldT (by first | assumption | exact H.ld (by rfl) | exact H.ldO (by assumption)) ?_ | refine re1 (by first | assumption | exact H.ld (by rfl) | exact H.ldO (by assumption)) ?_ | fail)
  refine H.nw fun g2 H => ?_
  have rr := SlR.two (H.row' g1.size) (r0.ext H.oldE) (H.rd a1 n1 c1)
  refine (Concat_ok rr ?_).mono ?_
  · have := wf.le
    simp only [total, flat_len, wf.coins]; omega
  rintro v_ g3 ⟨a2, n2, c2, rfl, H2⟩
  have H := H.lift1 H2
  refine ⟨_, _, _, rfl, ?_⟩
  have hl := H.ln a2 n2 c2
  have hw := v.sumT
  have hmem : ∀ m ∈ [x.coins, x.ways.flatten].flatten, -1000 ≤ m ∧ m ≤ 1000 := by
    intro m hm
    simp only [List.flatten_cons, List.flatten_nil, List.append_nil, List.mem_append, List.mem_flatten] at hm
    rcases hm with hm | ⟨l, hl, hm⟩
    · have := v.coins_mem m hm; omega
    · have := v.ways_mem l hl m hm; omega
  have hlen : [x.coins, x.ways.flatten].flatten.length ≤ 2000 := by
    have := wf.le
    simp only [flat_len, total, wf.coins]; omega
  generalize [x.coins, x.ways.flatten].flatten = zs at hl hw hmem hlen H
  refine ⟨UpK n2 fun i k g => g = g3 ∧ k = lsum (zs.take i), UpKM n2, UpK.start ⟨rfl, rfl⟩, ?_⟩
  intro g k y hI
  obtain ⟨i, hi, rfl, rfl, rfl⟩ := hI.elim
  have s2 := H.rd a2 n2 c2
  (refine br (fun hc => ?_) (fun hc => ?_) <;> (try simp only [decide_eq_true_eq, decide_eq_false_iff_not, beq_iff_eq, bne_iff_ne, ne_eq, Bool.not_eq_true', Bool.not_eq_false', Bool.not_eq_true, Bool.not_eq_false, beq_eq_false_iff_ne, bne_eq_false_iff_eq, Int.not_lt, Int.not_le, gt_iff_lt, ge_iff_le, Decidable.not_not] at hc))
  · have hi : i < n2 := by omega
    have b1 := lsum_part hmem i (by omega)
    have b2 := lsum_part hmem (i + 1) (by omega)
    have e := lsum_snoc (xs := zs) (i := i) (by omega)
    (first | refine SlR.nxI (by assumption) (by first | omega | assumption) fun b_ o_ e_ r_ => ?_ | refine SlR.nxB (by assumption) (by first | omega | assumption) fun b_ o_ e_ => ?_ | refine SlR.nxS (by assumption) (by first | omega | assumption) fun b_ o_ a_ n_ c_ e_ s_ l_ => ?_ | refine SlR.ixI (by assumption) (by first | omega | assumption) (by first | omega | assumption) fun b_ o_ e_ r_ => ?_ | refine SlR.ixB (by assumption) (by first | omega | assumption) (by first | omega | assumption) fun b_ o_ e_ => ?_ | refine SlR.ixS (by assumption) (by first | omega | assumption) (by first | omega | assumption) fun b_ o_ a_ n_ c_ e_ s_ => ?_ | fail)
    (first | refine ldI (by first | assumption | exact H.ld (by rfl) | exact H.ldO (by assumption)) ?_ | refine ldS (by first | assumption | exact H.ld (by rfl) | exact H.ldO (by assumption)) ?_ | refine ldB (by first | assumption | exact H.ld (by rfl) | exact H.ldO (by assumption)) ?_ | refine ldT (by first | assumption | exact H.ld (by rfl) | exact H.ldO (by assumption)) ?_ | refine re1 (by first | assumption | exact H.ld (by rfl) | exact H.ldO (by assumption)) ?_ | fail)
    refine UpK.next (by omega) hi ⟨rfl, ?_⟩
    rw [wrap64_of (by omega) (by omega)]; omega
  · have hin : i = n2 := by omega
    rw [hin, List.take_of_length_le (by omega), hw]
    exact ⟨rfl, H.oldE⟩

theorem PictureOf_ok (v : Inv n T x) (hT : Taken n x) (r : BankR h x d) : CallsH PP fn_impl_PictureOf [.agg ⟨d.cells⟩] h fun v h' => v = .tuple ⟨[.int .i64 (sumN x.kp n + sum2 x.fd n), .bool true]⟩ ∧ Ext h h' := by
  refine calls_impl_PictureOf _ _ _ _ _ _ _ _ _ _ _ _ _ _ _ ?_
  unfold M_impl_PictureOf
  obtain ⟨i, wf⟩ := v.wf
  have H := Own.start h
  have r4 := r.s4
  have r2 := r.s2
  repeat' (first | (first | ((refine (within_ok _ _ _).mono ?_; rintro v_ g_ ⟨rfl, rfl⟩; refine ⟨_, rfl, ?_⟩)) | (first | refine ldI (by first | assumption | exact H.ld (by rfl) | exact H.ldO (by assumption)) ?_ | refine ldS (by first | assumption | exact H.ld (by rfl) | exact H.ldO (by assumption)) ?_ | refine ldB (by first | assumption | exact H.ld (by rfl) | exact H.ldO (by assumption)) ?_ | refine ldT (by first | assumption | exact H.ld (by rfl) | exact H.ldO (by assumption)) ?_ | refine re1 (by first | assumption | exact H.ld (by rfl) | exact H.ldO (by assumption)) ?_ | fail) | (first | refine SlR.nxI (by assumption) (by first | omega | assumption) fun b_ o_ e_ r_ => ?_ | refine SlR.nxB (by assumption) (by first | omega | assumption) fun b_ o_ e_ => ?_ | refine SlR.nxS (by assumption) (by first | omega | assumption) fun b_ o_ a_ n_ c_ e_ s_ l_ => ?_ | refine SlR.ixI (by assumption) (by first | omega | assumption) (by first | omega | assumption) fun b_ o_ e_ r_ => ?_ | refine SlR.ixB (by assumption) (by first | omega | assumption) (by first | omega | assumption) fun b_ o_ e_ => ?_ | refine SlR.ixS (by assumption) (by first | omega | assumption) (by first | omega | assumption) fun b_ o_ a_ n_ c_ e_ s_ => ?_ | fail) | (refine br (fun hc => ?_) (fun hc => ?_) <;> (try simp only [decide_eq_true_eq, decide_eq_false_iff_not, beq_iff_eq, bne_iff_ne, ne_eq, Bool.not_eq_true', Bool.not_eq_false', Bool.not_eq_true, Bool.not_eq_false, beq_eq_false_iff_ne, bne_eq_false_iff_eq, Int.not_lt, Int.not_le, gt_iff_lt, ge_iff_le, Decidable.not_not] at hc)) | (refine H.nw fun g_ H => ?_) | fail) | fail)
  refine (isBank_ok v (r.ext H.oldE)).mono ?_
  rintro v_ g_ ⟨rfl, f⟩
  have H := H.ext f
  refine ⟨_, rfl, ?_⟩
  (refine br (fun hc => ?_) (fun hc => ?_) <;> (try simp only [decide_eq_true_eq, decide_eq_false_iff_not, beq_iff_eq, bne_iff_ne, ne_eq, Bool.not_eq_true', Bool.not_eq_false', Bool.not_eq_true, Bool.not_eq_false, beq_eq_false_iff_ne, bne_eq_false_iff_eq, Int.not_lt, Int.not_le, gt_iff_lt, ge_iff_le, Decidable.not_not] at hc))
  rotate_left
  · cases hc
  refine (isTaken_ok v hT (r.ext H.oldE) (H.ld (by rfl)) (H.ld (by rfl))).mono ?_
  rintro v_ g_ ⟨rfl, rfl⟩
  refine ⟨_, rfl, ?_⟩
  (refine br (fun hc => ?_) (fun hc => ?_) <;> (try simp only [decide_eq_true_eq, decide_eq_false_iff_not, beq_iff_eq, bne_iff_ne, ne_eq, Bool.not_eq_true', Bool.not_eq_false', Bool.not_eq_true, Bool.not_eq_false, beq_eq_false_iff_ne, bne_eq_false_iff_eq, Int.not_lt, Int.not_le, gt_iff_lt, ge_iff_le, Decidable.not_not] at hc))
  · cases hc
  (first | refine ldI (by first | assumption | exact H.ld (by rfl) | exact H.ldO (by assumption)) ?_ | refine ldS (by first | assumption | exact H.ld (by rfl) | exact H.ldO (by assumption)) ?_ | refine ldB (by first | assumption | exact H.ld (by rfl) | exact H.ldO (by assumption)) ?_ | refine ldT (by first | assumption | exact H.ld (by rfl) | exact H.ldO (by assumption)) ?_ | refine re1 (by first | assumption | exact H.ld (by rfl) | exact H.ldO (by assumption)) ?_ | fail)
  (first | refine ldI (by first | assumption | exact H.ld (by rfl) | exact H.ldO (by assumption)) ?_ | refine ldS (by first | assumption | exact H.ld (by rfl) | exact H.ldO (by assumption)) ?_ | refine ldB (by first | assumption | exact H.ld (by rfl) | exact H.ldO (by assumption)) ?_ | refine ldT (by first | assumption | exact H.ld (by rfl) | exact H.ldO (by assumption)) ?_ | refine re1 (by first | assumption | exact H.ld (by rfl) | exact H.ldO (by assumption)) ?_ | fail)
  have t1 := v.total_found
  refine (Concat_ok (r4.ext H.oldE) (by omega)).mono ?_
  rintro v_ g1 ⟨a1, n1, c1, rfl, H1⟩
  have H := H.lift1 H1
  refine ⟨_, _, _, rfl, ?_⟩
  (first | refine ldI (by first | assumption | exact H.ld (by rfl) | exact H.ldO (by assumption)) ?_ | refine ldS (by first | assumption | exact H.ld (by rfl) | exact H.ldO (by assumption)) ?_ | refine ldB (by first | assumption | exact H.ld (by rfl) | exact H.ldO (by assumption)) ?_ | refine ldT (by first | assumption | exact H.ld (by rfl) | exact H.ldO (by assumption)) ?_ | refine re1 (by first | assumption | exact H.ld (by rfl) | exact H.ldO (by assumption)) ?_ | fail)
  refine H.nw fun g2 H => ?_
  have rr := SlR.two (H.row' g1.size) (r2.ext H.oldE) (H.rd a1 n1 c1)
  refine (Concat_ok rr ?_).mono ?_
  · have := wf.le
    simp only [total, flat_len, wf.kept]; omega
  rintro v_ g3 ⟨a2, n2, c2, rfl, H2⟩
  have H := H.lift1 H2
  refine ⟨_, _, _, rfl, ?_⟩
  have hl := H.ln a2 n2 c2
  have hw := v.sumP
  have hmem : ∀ m ∈ [x.kept, x.found.flatten].flatten, -1000 ≤ m ∧ m ≤ 1000 := by
    intro m hm
    simp only [List.flatten_cons, List.flatten_nil, List.append_nil, List.mem_append, List.mem_flatten] at hm
    rcases hm with hm | ⟨l, hl, hm⟩
    · have := v.kept_mem m hm; omega
    · have := v.found_mem l hl m hm; omega
  have hlen : [x.kept, x.found.flatten].flatten.length ≤ 2000 := by
    have := wf.le
    simp only [flat_len, total, wf.kept]; omega
  generalize [x.kept, x.found.flatten].flatten = zs at hl hw hmem hlen H
  refine ⟨UpK n2 fun i k g => g = g3 ∧ k = lsum (zs.take i), UpKM n2, UpK.start ⟨rfl, rfl⟩, ?_⟩
  intro g k y hI
  obtain ⟨i, hi, rfl, rfl, rfl⟩ := hI.elim
  have s2 := H.rd a2 n2 c2
  (refine br (fun hc => ?_) (fun hc => ?_) <;> (try simp only [decide_eq_true_eq, decide_eq_false_iff_not, beq_iff_eq, bne_iff_ne, ne_eq, Bool.not_eq_true', Bool.not_eq_false', Bool.not_eq_true, Bool.not_eq_false, beq_eq_false_iff_ne, bne_eq_false_iff_eq, Int.not_lt, Int.not_le, gt_iff_lt, ge_iff_le, Decidable.not_not] at hc))
  · have hi : i < n2 := by omega
    have b1 := lsum_part hmem i (by omega)
    have b2 := lsum_part hmem (i + 1) (by omega)
    have e := lsum_snoc (xs := zs) (i := i) (by omega)
    (first | refine SlR.nxI (by assumption) (by first | omega | assumption) fun b_ o_ e_ r_ => ?_ | refine SlR.nxB (by assumption) (by first | omega | assumption) fun b_ o_ e_ => ?_ | refine SlR.nxS (by assumption) (by first | omega | assumption) fun b_ o_ a_ n_ c_ e_ s_ l_ => ?_ | refine SlR.ixI (by assumption) (by first | omega | assumption) (by first | omega | assumption) fun b_ o_ e_ r_ => ?_ | refine SlR.ixB (by assumption) (by first | omega | assumption) (by first | omega | assumption) fun b_ o_ e_ => ?_ | refine SlR.ixS (by assumption) (by first | omega | assumption) (by first | omega | assumption) fun b_ o_ a_ n_ c_ e_ s_ => ?_ | fail)
    (first | refine ldI (by first | assumption | exact H.ld (by rfl) | exact H.ldO (by assumption)) ?_ | refine ldS (by first | assumption | exact H.ld (by rfl) | exact H.ldO (by assumption)) ?_ | refine ldB (by first | assumption | exact H.ld (by rfl) | exact H.ldO (by assumption)) ?_ | refine ldT (by first | assumption | exact H.ld (by rfl) | exact H.ldO (by assumption)) ?_ | refine re1 (by first | assumption | exact H.ld (by rfl) | exact H.ldO (by assumption)) ?_ | fail)
    refine UpK.next (by omega) hi ⟨rfl, ?_⟩
    rw [wrap64_of (by omega) (by omega)]; omega
  · have hin : i = n2 := by omega
    rw [hin, List.take_of_length_le (by omega), hw]
    exact ⟨rfl, H.oldE⟩
end
end Go.Proofs.Ytjmhahjmbmiepaa.D
