/- Contracts: plain plays. -/
import Derived.Test.YtjmhahjmbmiepaaHdH
namespace Go.Proofs.Ytjmhahjmbmiepaa.D
open Go
set_option linter.unusedVariables false
set_option linter.unusedSimpArgs false

def nilH : HeadD := ⟨[], 0⟩
theorem wfF (l : List SayD) : WfH (foldH nilH l) := (WfH.nil 0).fold l
def tellsH (ls : List HouseStepD) : List SayD := (ls.filter fun s => decide (s.kind = 1) && sayOk s.what).map HouseStepD.what
theorem tellsH_snoc (ls : List HouseStepD) (s : HouseStepD) : tellsH (ls ++ [s]) = tellsH ls ++ (if (decide (s.kind = 1) && sayOk s.what) = true then [s.what] else []) := by
  unfold tellsH
  rw [List.filter_append, List.map_append]
  congr 1
  cases h : (decide (s.kind = 1) && sayOk s.what) <;> simp [h]
theorem tellsH_len (ls : List HouseStepD) : (tellsH ls).length ≤ ls.length := by
  unfold tellsH; rw [List.length_map]; exact List.length_filter_le _ _
theorem tellsH_ok {ls : List HouseStepD} : ∀ s ∈ tellsH ls, sayOk s = true := by
  intro s hs
  obtain ⟨t, ht, rfl⟩ := List.mem_map.1 hs
  have := (List.mem_filter.1 ht).2
  rw [Bool.and_eq_true] at this
  exact this.2
def StepS (s : HouseStepD) : Prop := s.ok ∧ s.what.name.size < 4611686018427387904
theorem StepS.say {s : HouseStepD} (h : StepS s) : SayS s.what := ⟨⟨h.1.2.2.1, h.1.2.2.2⟩, h.2⟩
theorem tellsH_S {ls : List HouseStepD} (hl : ∀ s ∈ ls, StepS s) : ∀ s ∈ tellsH ls, SayS s := by
  intro s hs
  obtain ⟨t, ht, rfl⟩ := List.mem_map.1 hs
  exact (hl t (List.mem_filter.1 ht).1).say
def playPlain (ls : List HouseStepD) : HeadD × Bool := if ls.length > 60 then (nilH, false) else (foldH nilH (tellsH ls), true)

section
variable {h : Heap}
theorem l17Fold_ok {ls : List SayD} {a2 : Option Addr} {n2 c2 : Nat} (hl : ∀ s ∈ ls, SayS s) (rl : SlR kSy h ls a2 n2 c2) (hn2 : n2 ≤ 100000) :
    CallsH PP fn_spec_l17Fold [.slice a2 n2 c2] h fun v h' => ∃ a' n' c', v = .agg ⟨[.slice a' n' c', .int .i64 (foldH nilH ls).offset]⟩ ∧ Own h' [slA kRw (foldH nilH ls).rows a' n' c', oldA h] := by
  refine calls_spec_l17Fold _ _ _ ?_
  unfold M_spec_l17Fold
  have ll := rl.len
  have H := Own.start h
  refine H.nw fun h2 H => ?_
  refine H.nw fun h3 H => ?_
  refine ⟨UpI n2 fun i g => ∃ a' n' c', Own g [rowA h2.size ty_impl_Head [.slice a' n' c', .int .i64 (foldH nilH (ls.take i)).offset], slA kRw (foldH nilH (ls.take i)).rows a' n' c', rowA h.size ty_impl_Head [.slice none 0 0, .int .i64 0], oldA h], UpM n2,
    UpI.start ⟨none, 0, 0, (H.slNil kRw).to (by repeat' (first | exact trivial | exact rfl | omega | (refine ⟨?_, ?_⟩)))⟩, ?_⟩
  intro g y hI
  obtain ⟨i, hi, rfl, a', n', c', H⟩ := hI.elim
  have hoff := foldH_offset nilH (ls.take i)
  rw [List.length_take, Nat.min_eq_left (by omega), show nilH.offset = 0 from rfl] at hoff
  (refine br (fun hc => ?_) (fun hc => ?_) <;> (try simp only [decide_eq_true_eq, decide_eq_false_iff_not, beq_iff_eq, bne_iff_ne, ne_eq, Bool.not_eq_true', Bool.not_eq_false', Bool.not_eq_true, Bool.not_eq_false, beq_eq_false_iff_ne, bne_eq_false_iff_eq, Int.not_lt, Int.not_le, gt_iff_lt, ge_iff_le, Decidable.not_not] at hc))
  · have hi : i < n2 := by omega
    refine rl.nxSay hi fun b o f1 f2 f3 ok => ?_
    have hS := hl _ (mem_getD' default (show i < ls.length by omega))
    repeat' (first | (first | ((refine (within_ok _ _ _).mono ?_; rintro v_ g_ ⟨rfl, rfl⟩; refine ⟨_, rfl, ?_⟩)) | (first | refine ldI (by first | assumption | exact H.ld (by rfl) | exact H.ldO (by assumption)) ?_ | refine ldS (by first | assumption | exact H.ld (by rfl) | exact H.ldO (by assumption)) ?_ | refine ldB (by first | assumption | exact H.ld (by rfl) | exact H.ldO (by assumption)) ?_ | refine ldT (by first | assumption | exact H.ld (by rfl) | exact H.ldO (by assumption)) ?_ | refine re1 (by first | assumption | exact H.ld (by rfl) | exact H.ldO (by assumption)) ?_ | fail) | (first | refine SlR.nxI (by assumption) (by first | omega | assumption) fun b_ o_ e_ r_ => ?_ | refine SlR.nxB (by assumption) (by first | omega | assumption) fun b_ o_ e_ => ?_ | refine SlR.nxS (by assumption) (by first | omega | assumption) fun b_ o_ a_ n_ c_ e_ s_ l_ => ?_ | refine SlR.ixI (by assumption) (by first | omega | assumption) (by first | omega | assumption) fun b_ o_ e_ r_ => ?_ | refine SlR.ixB (by assumption) (by first | omega | assumption) (by first | omega | assumption) fun b_ o_ e_ => ?_ | refine SlR.ixS (by assumption) (by first | omega | assumption) (by first | omega | assumption) fun b_ o_ a_ n_ c_ e_ s_ => ?_ | fail) | (refine br (fun hc => ?_) (fun hc => ?_) <;> (try simp only [decide_eq_true_eq, decide_eq_false_iff_not, beq_iff_eq, bne_iff_ne, ne_eq, Bool.not_eq_true', Bool.not_eq_false', Bool.not_eq_true, Bool.not_eq_false, beq_eq_false_iff_ne, bne_eq_false_iff_eq, Int.not_lt, Int.not_le, gt_iff_lt, ge_iff_le, Decidable.not_not] at hc)) | (refine H.nw fun g_ H => ?_) | fail) | (first | refine H.st (by simp) fun g_ H => ?_ | refine H.sts (by simp) fun g_ H => ?_ | fail) | fail)
    refine (l13Take_ok (wfF _) hS.1 (by omega) (H.front a' n' c')).mono ?_
    rintro v g2 ⟨a3, n3, c3, rfl, H⟩
    refine ⟨_, _, _, _, _, rfl, ?_⟩
    repeat' (first | (first | ((refine (within_ok _ _ _).mono ?_; rintro v_ g_ ⟨rfl, rfl⟩; refine ⟨_, rfl, ?_⟩)) | (first | refine ldI (by first | assumption | exact H.ld (by rfl) | exact H.ldO (by assumption)) ?_ | refine ldS (by first | assumption | exact H.ld (by rfl) | exact H.ldO (by assumption)) ?_ | refine ldB (by first | assumption | exact H.ld (by rfl) | exact H.ldO (by assumption)) ?_ | refine ldT (by first | assumption | exact H.ld (by rfl) | exact H.ldO (by assumption)) ?_ | refine re1 (by first | assumption | exact H.ld (by rfl) | exact H.ldO (by assumption)) ?_ | fail) | (first | refine SlR.nxI (by assumption) (by first | omega | assumption) fun b_ o_ e_ r_ => ?_ | refine SlR.nxB (by assumption) (by first | omega | assumption) fun b_ o_ e_ => ?_ | refine SlR.nxS (by assumption) (by first | omega | assumption) fun b_ o_ a_ n_ c_ e_ s_ l_ => ?_ | refine SlR.ixI (by assumption) (by first | omega | assumption) (by first | omega | assumption) fun b_ o_ e_ r_ => ?_ | refine SlR.ixB (by assumption) (by first | omega | assumption) (by first | omega | assumption) fun b_ o_ e_ => ?_ | refine SlR.ixS (by assumption) (by first | omega | assumption) (by first | omega | assumption) fun b_ o_ a_ n_ c_ e_ s_ => ?_ | fail) | (refine br (fun hc => ?_) (fun hc => ?_) <;> (try simp only [decide_eq_true_eq, decide_eq_false_iff_not, beq_iff_eq, bne_iff_ne, ne_eq, Bool.not_eq_true', Bool.not_eq_false', Bool.not_eq_true, Bool.not_eq_false, beq_eq_false_iff_ne, bne_eq_false_iff_eq, Int.not_lt, Int.not_le, gt_iff_lt, ge_iff_le, Decidable.not_not] at hc)) | (refine H.nw fun g_ H => ?_) | fail) | (first | refine H.st (by simp) fun g_ H => ?_ | refine H.sts (by simp) fun g_ H => ?_ | fail) | fail)
    refine UpI.next (by omega) hi ⟨a3, n3, c3, ?_⟩
    rw [← takeSnoc default (show i < ls.length by omega), foldH_snoc]
    exact H.to (by repeat' (first | exact trivial | exact rfl | omega | (refine ⟨?_, ?_⟩)))
  · have hin : i = n2 := by omega
    rw [hin, List.take_of_length_le (by omega)] at H
    repeat' (first | (first | ((refine (within_ok _ _ _).mono ?_; rintro v_ g_ ⟨rfl, rfl⟩; refine ⟨_, rfl, ?_⟩)) | (first | refine ldI (by first | assumption | exact H.ld (by rfl) | exact H.ldO (by assumption)) ?_ | refine ldS (by first | assumption | exact H.ld (by rfl) | exact H.ldO (by assumption)) ?_ | refine ldB (by first | assumption | exact H.ld (by rfl) | exact H.ldO (by assumption)) ?_ | refine ldT (by first | assumption | exact H.ld (by rfl) | exact H.ldO (by assumption)) ?_ | refine re1 (by first | assumption | exact H.ld (by rfl) | exact H.ldO (by assumption)) ?_ | fail) | (first | refine SlR.nxI (by assumption) (by first | omega | assumption) fun b_ o_ e_ r_ => ?_ | refine SlR.nxB (by assumption) (by first | omega | assumption) fun b_ o_ e_ => ?_ | refine SlR.nxS (by assumption) (by first | omega | assumption) fun b_ o_ a_ n_ c_ e_ s_ l_ => ?_ | refine SlR.ixI (by assumption) (by first | omega | assumption) (by first | omega | assumption) fun b_ o_ e_ r_ => ?_ | refine SlR.ixB (by assumption) (by first | omega | assumption) (by first | omega | assumption) fun b_ o_ e_ => ?_ | refine SlR.ixS (by assumption) (by first | omega | assumption) (by first | omega | assumption) fun b_ o_ a_ n_ c_ e_ s_ => ?_ | fail) | (refine br (fun hc => ?_) (fun hc => ?_) <;> (try simp only [decide_eq_true_eq, decide_eq_false_iff_not, beq_iff_eq, bne_iff_ne, ne_eq, Bool.not_eq_true', Bool.not_eq_false', Bool.not_eq_true, Bool.not_eq_false, beq_eq_false_iff_ne, bne_eq_false_iff_eq, Int.not_lt, Int.not_le, gt_iff_lt, ge_iff_le, Decidable.not_not] at hc)) | (refine H.nw fun g_ H => ?_) | fail) | (first | refine H.st (by simp) fun g_ H => ?_ | refine H.sts (by simp) fun g_ H => ?_ | fail) | fail)
    exact ⟨a', n', c', rfl, H.to (by repeat' (first | exact trivial | exact rfl | omega | (refine ⟨?_, ?_⟩)))⟩
theorem spec_PlayPlain_ok {ls : List HouseStepD} {a : Option Addr} {n c : Nat} (hl : ∀ s ∈ ls, StepS s) (r : SlR kHS h ls a n c) :
    CallsH PP fn_spec_PlayPlain [.slice a n c] h fun v h' => ∃ a' n' c', v = .tuple ⟨[.agg ⟨[.slice a' n' c', .int .i64 (playPlain ls).1.offset]⟩, .bool (playPlain ls).2]⟩ ∧ Own h' [slA kRw (playPlain ls).1.rows a' n' c', oldA h] := by
  refine calls_spec_PlayPlain _ _ _ ?_
  unfold M_spec_PlayPlain
  have lr := r.len
  have H := Own.start h
  refine H.nw fun h2 H => ?_
  (refine br (fun hc => ?_) (fun hc => ?_) <;> (try simp only [decide_eq_true_eq, decide_eq_false_iff_not, beq_iff_eq, bne_iff_ne, ne_eq, Bool.not_eq_true', Bool.not_eq_false', Bool.not_eq_true, Bool.not_eq_false, beq_eq_false_iff_ne, bne_eq_false_iff_eq, Int.not_lt, Int.not_le, gt_iff_lt, ge_iff_le, Decidable.not_not] at hc))
  · have hP : playPlain ls = (nilH, false) := by unfold playPlain; rw [if_pos (by omega)]
    repeat' (first | (first | ((refine (within_ok _ _ _).mono ?_; rintro v_ g_ ⟨rfl, rfl⟩; refine ⟨_, rfl, ?_⟩)) | (first | refine ldI (by first | assumption | exact H.ld (by rfl) | exact H.ldO (by assumption)) ?_ | refine ldS (by first | assumption | exact H.ld (by rfl) | exact H.ldO (by assumption)) ?_ | refine ldB (by first | assumption | exact H.ld (by rfl) | exact H.ldO (by assumption)) ?_ | refine ldT (by first | assumption | exact H.ld (by rfl) | exact H.ldO (by assumption)) ?_ | refine re1 (by first | assumption | exact H.ld (by rfl) | exact H.ldO (by assumption)) ?_ | fail) | (first | refine SlR.nxI (by assumption) (by first | omega | assumption) fun b_ o_ e_ r_ => ?_ | refine SlR.nxB (by assumption) (by first | omega | assumption) fun b_ o_ e_ => ?_ | refine SlR.nxS (by assumption) (by first | omega | assumption) fun b_ o_ a_ n_ c_ e_ s_ l_ => ?_ | refine SlR.ixI (by assumption) (by first | omega | assumption) (by first | omega | assumption) fun b_ o_ e_ r_ => ?_ | refine SlR.ixB (by assumption) (by first | omega | assumption) (by first | omega | assumption) fun b_ o_ e_ => ?_ | refine SlR.ixS (by assumption) (by first | omega | assumption) (by first | omega | assumption) fun b_ o_ a_ n_ c_ e_ s_ => ?_ | fail) | (refine br (fun hc => ?_) (fun hc => ?_) <;> (try simp only [decide_eq_true_eq, decide_eq_false_iff_not, beq_iff_eq, bne_iff_ne, ne_eq, Bool.not_eq_true', Bool.not_eq_false', Bool.not_eq_true, Bool.not_eq_false, beq_eq_false_iff_ne, bne_eq_false_iff_eq, Int.not_lt, Int.not_le, gt_iff_lt, ge_iff_le, Decidable.not_not] at hc)) | (refine H.nw fun g_ H => ?_) | fail) | (first | refine H.st (by simp) fun g_ H => ?_ | refine H.sts (by simp) fun g_ H => ?_ | fail) | fail)
    rw [hP]
    exact ⟨none, 0, 0, rfl, (H.slNil kRw).to (by repeat' (first | exact trivial | exact rfl | omega | (refine ⟨?_, ?_⟩)))⟩
  · have hP : playPlain ls = (foldH nilH (tellsH ls), true) := by unfold playPlain; rw [if_neg (by omega)]
    rw [hP]
    refine ⟨UpSl n fun i ad m cd g => m ≤ i ∧ Own g [slA kSy (tellsH (ls.take i)) ad m cd, rowA h.size ty_impl_Head [.slice none 0 0, .int .i64 0], oldA h], UpKM n,
      UpSl.start ⟨by omega, (H.slNil kSy).to (by repeat' (first | exact trivial | exact rfl | omega | (refine ⟨?_, ?_⟩)))⟩, ?_⟩
    intro g ad m cd y hI
    obtain ⟨i, hi, rfl, hm, H⟩ := hI.elim
    (refine br (fun hc => ?_) (fun hc => ?_) <;> (try simp only [decide_eq_true_eq, decide_eq_false_iff_not, beq_iff_eq, bne_iff_ne, ne_eq, Bool.not_eq_true', Bool.not_eq_false', Bool.not_eq_true, Bool.not_eq_false, beq_eq_false_iff_ne, bne_eq_false_iff_eq, Int.not_lt, Int.not_le, gt_iff_lt, ge_iff_le, Decidable.not_not] at hc))
    · have hi : i < n := by omega
      have e := takeSnoc (xs := ls) default (show i < ls.length by omega)
      have hS := hl _ (mem_getD' default (show i < ls.length by omega))
      have hsn := tellsH_snoc (ls.take i) (ls.getD i default)
      rw [e] at hsn
      refine r.nxHouseStep hi fun b o f1 f2 f3 f4 f5 ok => ?_
      repeat' (first | (first | refine ldI (by first | assumption | exact H.ld (by rfl) | exact H.ldO (by assumption)) ?_ | refine ldS (by first | assumption | exact H.ld (by rfl) | exact H.ldO (by assumption)) ?_ | refine ldB (by first | assumption | exact H.ld (by rfl) | exact H.ldO (by assumption)) ?_ | refine ldT (by first | assumption | exact H.ld (by rfl) | exact H.ldO (by assumption)) ?_ | refine re1 (by first | assumption | exact H.ld (by rfl) | exact H.ldO (by assumption)) ?_ | fail) | (refine H.nw fun g_ H => ?_) | (first | refine H.st (by simp) fun g_ H => ?_ | refine H.sts (by simp) fun g_ H => ?_ | fail) | fail)
      (refine br (fun hc => ?_) (fun hc => ?_) <;> (try simp only [decide_eq_true_eq, decide_eq_false_iff_not, beq_iff_eq, bne_iff_ne, ne_eq, Bool.not_eq_true', Bool.not_eq_false', Bool.not_eq_true, Bool.not_eq_false, beq_eq_false_iff_ne, bne_eq_false_iff_eq, Int.not_lt, Int.not_le, gt_iff_lt, ge_iff_le, Decidable.not_not] at hc))
      · have hk := hc
        repeat' (first | (first | refine ldI (by first | assumption | exact H.ld (by rfl) | exact H.ldO (by assumption)) ?_ | refine ldS (by first | assumption | exact H.ld (by rfl) | exact H.ldO (by assumption)) ?_ | refine ldB (by first | assumption | exact H.ld (by rfl) | exact H.ldO (by assumption)) ?_ | refine ldT (by first | assumption | exact H.ld (by rfl) | exact H.ldO (by assumption)) ?_ | refine re1 (by first | assumption | exact H.ld (by rfl) | exact H.ldO (by assumption)) ?_ | fail) | fail)
        refine (l13Say_ok (ls.getD i default).what hS.2).mono ?_
        rintro v g2 ⟨rfl, f⟩
        have H := H.ext f
        refine ⟨_, rfl, ?_⟩
        (refine br (fun hc => ?_) (fun hc => ?_) <;> (try simp only [decide_eq_true_eq, decide_eq_false_iff_not, beq_iff_eq, bne_iff_ne, ne_eq, Bool.not_eq_true', Bool.not_eq_false', Bool.not_eq_true, Bool.not_eq_false, beq_eq_false_iff_ne, bne_eq_false_iff_eq, Int.not_lt, Int.not_le, gt_iff_lt, ge_iff_le, Decidable.not_not] at hc))
        · repeat' (first | (first | refine ldI (by first | assumption | exact H.ld (by rfl) | exact H.ldO (by assumption)) ?_ | refine ldS (by first | assumption | exact H.ld (by rfl) | exact H.ldO (by assumption)) ?_ | refine ldB (by first | assumption | exact H.ld (by rfl) | exact H.ldO (by assumption)) ?_ | refine ldT (by first | assumption | exact H.ld (by rfl) | exact H.ldO (by assumption)) ?_ | refine re1 (by first | assumption | exact H.ld (by rfl) | exact H.ldO (by assumption)) ?_ | fail) | (refine H.nw fun g_ H => ?_) | fail)
          refine H.ap1 (y := (ls.getD i default).what) (by exact ⟨rfl, rfl, hS.say.1⟩) (by omega) fun a2 c2 g3 H => ?_
          refine UpSl.next (by omega) hi ⟨by omega, ?_⟩
          rw [hsn, if_pos (by rw [hc, hk]; rfl)]
          exact H.to (by repeat' (first | exact trivial | exact rfl | omega | (refine ⟨?_, ?_⟩)))
        · refine UpSl.next (by omega) hi ⟨by omega, ?_⟩
          rw [hsn, if_neg (by rw [hc]; simp), List.append_nil]
          exact H.to (by repeat' (first | exact trivial | exact rfl | omega | (refine ⟨?_, ?_⟩)))
      · refine UpSl.next (by omega) hi ⟨by omega, ?_⟩
        rw [hsn, if_neg (by simp only [Bool.and_eq_true, decide_eq_true_eq]; exact fun hh => hc hh.1), List.append_nil]
        exact H.to (by repeat' (first | exact trivial | exact rfl | omega | (refine ⟨?_, ?_⟩)))
    · have hin : i = n := by omega
      rw [hin, List.take_of_length_le (by omega)] at H
      have lm := H.ln ad m cd
      refine (l17Fold_ok (tellsH_S hl) (H.rd ad m cd) (by omega)).mono ?_
      rintro v g2 ⟨a1, n1, c1, rfl, H2⟩
      have H := H.lift1 H2
      refine ⟨_, _, _, _, rfl, ?_⟩
      have wf := wfF (tellsH ls)
      have hf := wf.few
      have l1 := H.ln a1 n1 c1
      have hf : n1 ≤ 8 := by rw [l1.1]; exact hf
      refine (l13Own_ok (H.rd a1 n1 c1) (by omega) (fun j hj => by have := (wf.at (i := j) (by omega)).2; omega)).mono ?_
      rintro v g3 ⟨a3, n3, c3, rfl, H3⟩
      have H := H.lift1 H3
      refine ⟨_, _, _, _, rfl, ?_⟩
      repeat' (first | (first | refine ldI (by first | assumption | exact H.ld (by rfl) | exact H.ldO (by assumption)) ?_ | refine ldS (by first | assumption | exact H.ld (by rfl) | exact H.ldO (by assumption)) ?_ | refine ldB (by first | assumption | exact H.ld (by rfl) | exact H.ldO (by assumption)) ?_ | refine ldT (by first | assumption | exact H.ld (by rfl) | exact H.ldO (by assumption)) ?_ | refine re1 (by first | assumption | exact H.ld (by rfl) | exact H.ldO (by assumption)) ?_ | fail) | (first | refine H.st (by simp) fun g_ H => ?_ | refine H.sts (by simp) fun g_ H => ?_ | fail) | fail)
      exact ⟨a3, n3, c3, rfl, H.to (by repeat' (first | exact trivial | exact rfl | omega | (refine ⟨?_, ?_⟩)))⟩
theorem impl_PlayPlain_ok {ls : List HouseStepD} {a : Option Addr} {n c : Nat} (hl : ∀ s ∈ ls, StepS s) (r : SlR kHS h ls a n c) :
    CallsH PP fn_impl_PlayPlain [.slice a n c] h fun v h' => ∃ a' n' c', v = .tuple ⟨[.agg ⟨[.slice a' n' c', .int .i64 (playPlain ls).1.offset]⟩, .bool (playPlain ls).2]⟩ ∧ Own h' [slA kRw (playPlain ls).1.rows a' n' c', oldA h] := by
  refine calls_impl_PlayPlain _ _ _ ?_
  unfold M_impl_PlayPlain
  have lr := r.len
  have H := Own.start h
  refine H.nw fun h2 H => ?_
  (refine br (fun hc => ?_) (fun hc => ?_) <;> (try simp only [decide_eq_true_eq, decide_eq_false_iff_not, beq_iff_eq, bne_iff_ne, ne_eq, Bool.not_eq_true', Bool.not_eq_false', Bool.not_eq_true, Bool.not_eq_false, beq_eq_false_iff_ne, bne_eq_false_iff_eq, Int.not_lt, Int.not_le, gt_iff_lt, ge_iff_le, Decidable.not_not] at hc))
  · have hP : playPlain ls = (nilH, false) := by unfold playPlain; rw [if_pos (by omega)]
    repeat' (first | (first | ((refine (within_ok _ _ _).mono ?_; rintro v_ g_ ⟨rfl, rfl⟩; refine ⟨_, rfl, ?_⟩)) | (first | refine ldI (by first | assumption | exact H.ld (by rfl) | exact H.ldO (by assumption)) ?_ | refine ldS (by first | assumption | exact H.ld (by rfl) | exact H.ldO (by assumption)) ?_ | refine ldB (by first | assumption | exact H.ld (by rfl) | exact H.ldO (by assumption)) ?_ | refine ldT (by first | assumption | exact H.ld (by rfl) | exact H.ldO (by assumption)) ?_ | refine re1 (by first | assumption | exact H.ld (by rfl) | exact H.ldO (by assumption)) ?_ | fail) | (first | refine SlR.nxI (by assumption) (by first | omega | assumption) fun b_ o_ e_ r_ => ?_ | refine SlR.nxB (by assumption) (by first | omega | assumption) fun b_ o_ e_ => ?_ | refine SlR.nxS (by assumption) (by first | omega | assumption) fun b_ o_ a_ n_ c_ e_ s_ l_ => ?_ | refine SlR.ixI (by assumption) (by first | omega | assumption) (by first | omega | assumption) fun b_ o_ e_ r_ => ?_ | refine SlR.ixB (by assumption) (by first | omega | assumption) (by first | omega | assumption) fun b_ o_ e_ => ?_ | refine SlR.ixS (by assumption) (by first | omega | assumption) (by first | omega | assumption) fun b_ o_ a_ n_ c_ e_ s_ => ?_ | fail) | (refine br (fun hc => ?_) (fun hc => ?_) <;> (try simp only [decide_eq_true_eq, decide_eq_false_iff_not, beq_iff_eq, bne_iff_ne, ne_eq, Bool.not_eq_true', Bool.not_eq_false', Bool.not_eq_true, Bool.not_eq_false, beq_eq_false_iff_ne, bne_eq_false_iff_eq, Int.not_lt, Int.not_le, gt_iff_lt, ge_iff_le, Decidable.not_not] at hc)) | (refine H.nw fun g_ H => ?_) | fail) | (first | refine H.st (by simp) fun g_ H => ?_ | refine H.sts (by simp) fun g_ H => ?_ | fail) | fail)
    rw [hP]
    exact ⟨none, 0, 0, rfl, (H.slNil kRw).to (by repeat' (first | exact trivial | exact rfl | omega | (refine ⟨?_, ?_⟩)))⟩
  · have hP : playPlain ls = (foldH nilH (tellsH ls), true) := by unfold playPlain; rw [if_neg (by omega)]
    rw [hP]
    refine ⟨UpSl n fun i ad m cd g => m ≤ i ∧ Own g [slA kSy (tellsH (ls.take i)) ad m cd, rowA h.size ty_impl_Head [.slice none 0 0, .int .i64 0], oldA h], UpKM n,
      UpSl.start ⟨by omega, (H.slNil kSy).to (by repeat' (first | exact trivial | exact rfl | omega | (refine ⟨?_, ?_⟩)))⟩, ?_⟩
    intro g ad m cd y hI
    obtain ⟨i, hi, rfl, hm, H⟩ := hI.elim
    (refine br (fun hc => ?_) (fun hc => ?_) <;> (try simp only [decide_eq_true_eq, decide_eq_false_iff_not, beq_iff_eq, bne_iff_ne, ne_eq, Bool.not_eq_true', Bool.not_eq_false', Bool.not_eq_true, Bool.not_eq_false, beq_eq_false_iff_ne, bne_eq_false_iff_eq, Int.not_lt, Int.not_le, gt_iff_lt, ge_iff_le, Decidable.not_not] at hc))
    · have hi : i < n := by omega
      have e := takeSnoc (xs := ls) default (show i < ls.length by omega)
      have hS := hl _ (mem_getD' default (show i < ls.length by omega))
      have hsn := tellsH_snoc (ls.take i) (ls.getD i default)
      rw [e] at hsn
      refine r.nxHouseStep hi fun b o f1 f2 f3 f4 f5 ok => ?_
      repeat' (first | (first | refine ldI (by first | assumption | exact H.ld (by rfl) | exact H.ldO (by assumption)) ?_ | refine ldS (by first | assumption | exact H.ld (by rfl) | exact H.ldO (by assumption)) ?_ | refine ldB (by first | assumption | exact H.ld (by rfl) | exact H.ldO (by assumption)) ?_ | refine ldT (by first | assumption | exact H.ld (by rfl) | exact H.ldO (by assumption)) ?_ | refine re1 (by first | assumption | exact H.ld (by rfl) | exact H.ldO (by assumption)) ?_ | fail) | (refine H.nw fun g_ H => ?_) | (first | refine H.st (by simp) fun g_ H => ?_ | refine H.sts (by simp) fun g_ H => ?_ | fail) | fail)
      (refine br (fun hc => ?_) (fun hc => ?_) <;> (try simp only [decide_eq_true_eq, decide_eq_false_iff_not, beq_iff_eq, bne_iff_ne, ne_eq, Bool.not_eq_true', Bool.not_eq_false', Bool.not_eq_true, Bool.not_eq_false, beq_eq_false_iff_ne, bne_eq_false_iff_eq, Int.not_lt, Int.not_le, gt_iff_lt, ge_iff_le, Decidable.not_not] at hc))
      · have hk := hc
        repeat' (first | (first | refine ldI (by first | assumption | exact H.ld (by rfl) | exact H.ldO (by assumption)) ?_ | refine ldS (by first | assumption | exact H.ld (by rfl) | exact H.ldO (by assumption)) ?_ | refine ldB (by first | assumption | exact H.ld (by rfl) | exact H.ldO (by assumption)) ?_ | refine ldT (by first | assumption | exact H.ld (by rfl) | exact H.ldO (by assumption)) ?_ | refine re1 (by first | assumption | exact H.ld (by rfl) | exact H.ldO (by assumption)) ?_ | fail) | fail)
        refine (isSay_ok (ls.getD i default).what hS.2).mono ?_
        rintro v g2 ⟨rfl, f⟩
        have H := H.ext f
        refine ⟨_, rfl, ?_⟩
        (refine br (fun hc => ?_) (fun hc => ?_) <;> (try simp only [decide_eq_true_eq, decide_eq_false_iff_not, beq_iff_eq, bne_iff_ne, ne_eq, Bool.not_eq_true', Bool.not_eq_false', Bool.not_eq_true, Bool.not_eq_false, beq_eq_false_iff_ne, bne_eq_false_iff_eq, Int.not_lt, Int.not_le, gt_iff_lt, ge_iff_le, Decidable.not_not] at hc))
        · repeat' (first | (first | refine ldI (by first | assumption | exact H.ld (by rfl) | exact H.ldO (by assumption)) ?_ | refine ldS (by first | assumption | exact H.ld (by rfl) | exact H.ldO (by assumption)) ?_ | refine ldB (by first | assumption | exact H.ld (by rfl) | exact H.ldO (by assumption)) ?_ | refine ldT (by first | assumption | exact H.ld (by rfl) | exact H.ldO (by assumption)) ?_ | refine re1 (by first | assumption | exact H.ld (by rfl) | exact H.ldO (by assumption)) ?_ | fail) | (refine H.nw fun g_ H => ?_) | fail)
          refine H.ap1 (y := (ls.getD i default).what) (by exact ⟨rfl, rfl, hS.say.1⟩) (by omega) fun a2 c2 g3 H => ?_
          refine UpSl.next (by omega) hi ⟨by omega, ?_⟩
          rw [hsn, if_pos (by rw [hc, hk]; rfl)]
          exact H.to (by repeat' (first | exact trivial | exact rfl | omega | (refine ⟨?_, ?_⟩)))
        · refine UpSl.next (by omega) hi ⟨by omega, ?_⟩
          rw [hsn, if_neg (by rw [hc]; simp), List.append_nil]
          exact H.to (by repeat' (first | exact trivial | exact rfl | omega | (refine ⟨?_, ?_⟩)))
      · refine UpSl.next (by omega) hi ⟨by omega, ?_⟩
        rw [hsn, if_neg (by simp only [Bool.and_eq_true, decide_eq_true_eq]; exact fun hh => hc hh.1), List.append_nil]
        exact H.to (by repeat' (first | exact trivial | exact rfl | omega | (refine ⟨?_, ?_⟩)))
    · have hin : i = n := by omega
      rw [hin, List.take_of_length_le (by omega)] at H
      have lm := H.ln ad m cd
      have h60 := tellsH_len ls
      have hg : ((tellsH ls).all sayOk && decide ((0 : Int) + (tellsH ls).length ≤ 1000)) = true := by
        rw [Bool.and_eq_true, List.all_eq_true]
        exact ⟨tellsH_ok, by simp; omega⟩
      refine (foldSays_ok (x := nilH) (WfH.nil 0) ⟨by decide, by decide⟩ (tellsH_S hl) (SlR.nil kRw g) (H.rd ad m cd) (by omega)).mono ?_
      rintro v g2 ⟨a1, n1, c1, off, a5, n5, c5, rfl, f, hok⟩
      obtain ⟨rfl, H2⟩ := hok hg
      have H := H.lift1 H2
      refine ⟨_, _, _, _, _, _, _, _, rfl, ?_⟩
      repeat' (first | (first | refine ldI (by first | assumption | exact H.ld (by rfl) | exact H.ldO (by assumption)) ?_ | refine ldS (by first | assumption | exact H.ld (by rfl) | exact H.ldO (by assumption)) ?_ | refine ldB (by first | assumption | exact H.ld (by rfl) | exact H.ldO (by assumption)) ?_ | refine ldT (by first | assumption | exact H.ld (by rfl) | exact H.ldO (by assumption)) ?_ | refine re1 (by first | assumption | exact H.ld (by rfl) | exact H.ldO (by assumption)) ?_ | fail) | (refine H.nw fun g_ H => ?_) | (first | refine H.st (by simp) fun g_ H => ?_ | refine H.sts (by simp) fun g_ H => ?_ | fail) | fail)
      exact ⟨a1, n1, c1, by rw [show nilH.offset = 0 from rfl, hg], H.to (by repeat' (first | exact trivial | exact rfl | omega | (refine ⟨?_, ?_⟩)))⟩
end
end Go.Proofs.Ytjmhahjmbmiepaa.D
