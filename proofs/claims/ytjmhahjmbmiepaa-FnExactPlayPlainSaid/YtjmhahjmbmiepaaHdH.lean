/- Contracts: measurements folded; plain plays. -/
import Derived.Test.YtjmhahjmbmiepaaHdG
namespace Go.Proofs.Ytjmhahjmbmiepaa.D
open Go
set_option linter.unusedVariables false
set_option linter.unusedSimpArgs false

abbrev kSy : Kind SayD := kSay ty_impl_Say
abbrev kHS : Kind HouseStepD := kHouseStep ty_impl_HouseStep
/-- A loop that counts up and carries a slice. -/
def UpSl (n : Nat) (J : Nat → Option Addr → Nat → Nat → Heap → Prop) : List Value → Heap → Prop := fun vs g => ∃ (i : Nat) (a : Option Addr) (m c : Nat), i ≤ n ∧ vs = [.slice a m c, .int .i64 (i : Int)] ∧ J i a m c g
theorem UpSl.start {n : Nat} {J : Nat → Option Addr → Nat → Nat → Heap → Prop} {h : Heap} {a : Option Addr} {m c : Nat} (j : J 0 a m c h) : UpSl n J [.slice a m c, .int .i64 0] h := ⟨0, a, m, c, by omega, rfl, j⟩
theorem UpSl.elim {n : Nat} {J : Nat → Option Addr → Nat → Nat → Heap → Prop} {h : Heap} {a : Option Addr} {m c : Nat} {x : Int} (u : UpSl n J [.slice a m c, .int .i64 x] h) : ∃ i : Nat, i ≤ n ∧ x = i ∧ J i a m c h := by
  obtain ⟨i, a', m', c', hi, hv, j⟩ := u
  simp at hv
  obtain ⟨⟨rfl, rfl, rfl⟩, rfl⟩ := hv
  exact ⟨i, hi, rfl, j⟩
theorem UpSl.next {n : Nat} {J : Nat → Option Addr → Nat → Nat → Heap → Prop} {g g' : Heap} {i : Nat} {a a' : Option Addr} {m c m' c' : Nat} (hn : n < 281474976710656) (hi : i < n) (j : J (i + 1) a' m' c' g) :
    UpSl n J [.slice a' m' c', .int .i64 (IntKind.i64.wrap ((i : Int) + 1))] g ∧ UpKM n [.slice a' m' c', .int .i64 (IntKind.i64.wrap ((i : Int) + 1))] g < UpKM n [.slice a m c, .int .i64 (i : Int)] g' := by
  rw [wrap_succ (by omega)]
  refine ⟨⟨i + 1, a', m', c', by omega, rfl, j⟩, ?_⟩
  simp [UpKM, ivOf]; omega

theorem takeH_code (x : HeadD) (s : SayD) : inI64 (takeH x s).2 := by
  unfold takeH putSample
  repeat' split
  all_goals simp [inI64]
section
variable {h : Heap} {L : List Asn}
/-- A row of the call's own, read in the middle, and a slice, to the front. -/
theorem Own.midSl {α : Type} {k : Kind α} {xs : List α} {R R' : List Asn} {e : TypeId} {cs : List Value} (H : Own h L) (b : Nat) (a : Option Addr) (n c : Nat) [i : RowIn b L e cs R] [j : SlIn a n c R α k xs R'] : Own h (midA b 0 e [] cs [] :: slA k xs a n c :: R') :=
  (H.perm (i.perm.trans (j.perm.cons _))).toMid
theorem mem_getD' {α : Type} {l : List α} {i : Nat} (d : α) (h : i < l.length) : l.getD i d ∈ l := by rw [getD_of d h]; exact List.getElem_mem _
def SayS (s : SayD) : Prop := s.ok ∧ s.name.size < 4611686018427387904
theorem foldSays_ok {x : HeadD} {ls : List SayD} {a a2 : Option Addr} {n c n2 c2 : Nat} (w : WfH x) (ho : 0 ≤ x.offset ∧ x.offset ≤ 1000) (hl : ∀ s ∈ ls, SayS s) (r : SlR kRw h x.rows a n c) (rl : SlR kSy h ls a2 n2 c2) (hn2 : n2 ≤ 1000000) :
    CallsH PP fn_impl_foldSays [.agg ⟨[.slice a n c, .int .i64 x.offset]⟩, .slice a2 n2 c2] h fun v h' => ∃ (a' : Option Addr) (n' c' : Nat) (off : Int) (ad : Option Addr) (nd cd : Nat),
      v = .tuple ⟨[.agg ⟨[.slice a' n' c', .int .i64 off]⟩, .slice ad nd cd, .bool (ls.all sayOk && decide (x.offset + ls.length ≤ 1000))]⟩ ∧ Ext h h' ∧
      ((ls.all sayOk && decide (x.offset + ls.length ≤ 1000)) = true → off = (foldH x ls).offset ∧ Own h' [slA kRw (foldH x ls).rows a' n' c', oldA h]) := by
  refine calls_impl_foldSays _ _ _ _ _ _ _ ?_
  unfold M_impl_foldSays
  have lr := r.len
  have ll := rl.len
  have hfew := w.few
  have H := Own.start h
  refine H.nw fun h4 H => ?_
  refine H.nw fun h5 H => ?_
  repeat' (first | (first | ((refine (within_ok _ _ _).mono ?_; rintro v_ g_ ⟨rfl, rfl⟩; refine ⟨_, rfl, ?_⟩)) | (first | refine ldI (by first | assumption | exact H.ld (by rfl) | exact H.ldO (by assumption)) ?_ | refine ldS (by first | assumption | exact H.ld (by rfl) | exact H.ldO (by assumption)) ?_ | refine ldB (by first | assumption | exact H.ld (by rfl) | exact H.ldO (by assumption)) ?_ | refine ldT (by first | assumption | exact H.ld (by rfl) | exact H.ldO (by assumption)) ?_ | refine re1 (by first | assumption | exact H.ld (by rfl) | exact H.ldO (by assumption)) ?_ | fail) | (first | refine SlR.nxI (by assumption) (by first | omega | assumption) fun b_ o_ e_ r_ => ?_ | refine SlR.nxB (by assumption) (by first | omega | assumption) fun b_ o_ e_ => ?_ | refine SlR.nxS (by assumption) (by first | omega | assumption) fun b_ o_ a_ n_ c_ e_ s_ l_ => ?_ | refine SlR.ixI (by assumption) (by first | omega | assumption) (by first | omega | assumption) fun b_ o_ e_ r_ => ?_ | refine SlR.ixB (by assumption) (by first | omega | assumption) (by first | omega | assumption) fun b_ o_ e_ => ?_ | refine SlR.ixS (by assumption) (by first | omega | assumption) (by first | omega | assumption) fun b_ o_ a_ n_ c_ e_ s_ => ?_ | fail) | (refine br (fun hc => ?_) (fun hc => ?_) <;> (try simp only [decide_eq_true_eq, decide_eq_false_iff_not, beq_iff_eq, bne_iff_ne, ne_eq, Bool.not_eq_true', Bool.not_eq_false', Bool.not_eq_true, Bool.not_eq_false, beq_eq_false_iff_ne, bne_eq_false_iff_eq, Int.not_lt, Int.not_le, gt_iff_lt, ge_iff_le, Decidable.not_not] at hc)) | (refine H.nw fun g_ H => ?_) | fail) | fail)
  refine (cloneHead_ok (r.ext H.oldE) (by omega) (fun i hi => by have := (w.at (i := i) (by omega)).2; omega)).mono ?_
  rintro v h8 ⟨a', n', c', rfl, H2⟩
  have H := H.lift1 H2
  refine ⟨_, _, _, _, rfl, ?_⟩
  refine H.nw fun h11 H => ?_
  refine H.sts (by simp) fun h13 H => ?_
  refine ⟨UpSl n2 fun i ad m cd g => ∃ (a' : Option Addr) (n' c' : Nat) (cds : List Int), m = i ∧ (∀ s ∈ ls.take i, sayOk s = true) ∧ x.offset + i ≤ 1000 ∧
    Own g [rowA h8.size ty_impl_Head [.slice a' n' c', .int .i64 (foldH x (ls.take i)).offset], slA kRw (foldH x (ls.take i)).rows a' n' c', slA kI cds ad m cd, rowA h4.size ty_impl_Head [.slice none 0 0, .int .i64 0], oldA h], UpKM n2,
    UpSl.start ⟨a', n', c', [], rfl, (fun s hs => by simp at hs), by omega, (H.slNil kI).to (by repeat' (first | exact trivial | exact rfl | omega | (refine ⟨?_, ?_⟩)))⟩, ?_⟩
  intro g ad m cd y hI
  obtain ⟨i, hi, rfl, a', n', c', cds, rfl, hall, hoi, H⟩ := hI.elim
  have hoff := foldH_offset x (ls.take m)
  rw [List.length_take, Nat.min_eq_left (by omega)] at hoff
  (refine br (fun hc => ?_) (fun hc => ?_) <;> (try simp only [decide_eq_true_eq, decide_eq_false_iff_not, beq_iff_eq, bne_iff_ne, ne_eq, Bool.not_eq_true', Bool.not_eq_false', Bool.not_eq_true, Bool.not_eq_false, beq_eq_false_iff_ne, bne_eq_false_iff_eq, Int.not_lt, Int.not_le, gt_iff_lt, ge_iff_le, Decidable.not_not] at hc))
  · have hi : m < n2 := by omega
    refine rl.nxSay hi fun b o f1 f2 f3 ok => ?_
    have hmem := mem_getD' default (show m < ls.length by omega)
    have hS := hl _ hmem
    repeat' (first | (first | ((refine (within_ok _ _ _).mono ?_; rintro v_ g_ ⟨rfl, rfl⟩; refine ⟨_, rfl, ?_⟩)) | (first | refine ldI (by first | assumption | exact H.ld (by rfl) | exact H.ldO (by assumption)) ?_ | refine ldS (by first | assumption | exact H.ld (by rfl) | exact H.ldO (by assumption)) ?_ | refine ldB (by first | assumption | exact H.ld (by rfl) | exact H.ldO (by assumption)) ?_ | refine ldT (by first | assumption | exact H.ld (by rfl) | exact H.ldO (by assumption)) ?_ | refine re1 (by first | assumption | exact H.ld (by rfl) | exact H.ldO (by assumption)) ?_ | fail) | (first | refine SlR.nxI (by assumption) (by first | omega | assumption) fun b_ o_ e_ r_ => ?_ | refine SlR.nxB (by assumption) (by first | omega | assumption) fun b_ o_ e_ => ?_ | refine SlR.nxS (by assumption) (by first | omega | assumption) fun b_ o_ a_ n_ c_ e_ s_ l_ => ?_ | refine SlR.ixI (by assumption) (by first | omega | assumption) (by first | omega | assumption) fun b_ o_ e_ r_ => ?_ | refine SlR.ixB (by assumption) (by first | omega | assumption) (by first | omega | assumption) fun b_ o_ e_ => ?_ | refine SlR.ixS (by assumption) (by first | omega | assumption) (by first | omega | assumption) fun b_ o_ a_ n_ c_ e_ s_ => ?_ | fail) | (refine br (fun hc => ?_) (fun hc => ?_) <;> (try simp only [decide_eq_true_eq, decide_eq_false_iff_not, beq_iff_eq, bne_iff_ne, ne_eq, Bool.not_eq_true', Bool.not_eq_false', Bool.not_eq_true, Bool.not_eq_false, beq_eq_false_iff_ne, bne_eq_false_iff_eq, Int.not_lt, Int.not_le, gt_iff_lt, ge_iff_le, Decidable.not_not] at hc)) | (refine H.nw fun g_ H => ?_) | fail) | (first | refine H.st (by simp) fun g_ H => ?_ | refine H.sts (by simp) fun g_ H => ?_ | fail) | fail)
    refine (isSay_ok (ls.getD m default) hS.2).mono ?_
    rintro v g2 ⟨rfl, f⟩
    have H := H.ext f
    refine ⟨_, rfl, ?_⟩
    have bad : (ls.all sayOk && decide (x.offset + ls.length ≤ 1000)) = false → ∀ (P : Prop), ((ls.all sayOk && decide (x.offset + ls.length ≤ 1000)) = true → P) := fun hb P ht => by rw [hb] at ht; cases ht
    (refine br (fun hc => ?_) (fun hc => ?_) <;> (try simp only [decide_eq_true_eq, decide_eq_false_iff_not, beq_iff_eq, bne_iff_ne, ne_eq, Bool.not_eq_true', Bool.not_eq_false', Bool.not_eq_true, Bool.not_eq_false, beq_eq_false_iff_ne, bne_eq_false_iff_eq, Int.not_lt, Int.not_le, gt_iff_lt, ge_iff_le, Decidable.not_not] at hc))
    · have hok := hc
      (first | refine ldI (by first | assumption | exact H.ld (by rfl) | exact H.ldO (by assumption)) ?_ | refine ldS (by first | assumption | exact H.ld (by rfl) | exact H.ldO (by assumption)) ?_ | refine ldB (by first | assumption | exact H.ld (by rfl) | exact H.ldO (by assumption)) ?_ | refine ldT (by first | assumption | exact H.ld (by rfl) | exact H.ldO (by assumption)) ?_ | refine re1 (by first | assumption | exact H.ld (by rfl) | exact H.ldO (by assumption)) ?_ | fail)
      (refine br (fun hc => ?_) (fun hc => ?_) <;> (try simp only [decide_eq_true_eq, decide_eq_false_iff_not, beq_iff_eq, bne_iff_ne, ne_eq, Bool.not_eq_true', Bool.not_eq_false', Bool.not_eq_true, Bool.not_eq_false, beq_eq_false_iff_ne, bne_eq_false_iff_eq, Int.not_lt, Int.not_le, gt_iff_lt, ge_iff_le, Decidable.not_not] at hc))
      · have hb : (ls.all sayOk && decide (x.offset + ls.length ≤ 1000)) = false := by
          rw [Bool.and_eq_false_iff]; right; simp; omega
        repeat' (first | (first | ((refine (within_ok _ _ _).mono ?_; rintro v_ g_ ⟨rfl, rfl⟩; refine ⟨_, rfl, ?_⟩)) | (first | refine ldI (by first | assumption | exact H.ld (by rfl) | exact H.ldO (by assumption)) ?_ | refine ldS (by first | assumption | exact H.ld (by rfl) | exact H.ldO (by assumption)) ?_ | refine ldB (by first | assumption | exact H.ld (by rfl) | exact H.ldO (by assumption)) ?_ | refine ldT (by first | assumption | exact H.ld (by rfl) | exact H.ldO (by assumption)) ?_ | refine re1 (by first | assumption | exact H.ld (by rfl) | exact H.ldO (by assumption)) ?_ | fail) | (first | refine SlR.nxI (by assumption) (by first | omega | assumption) fun b_ o_ e_ r_ => ?_ | refine SlR.nxB (by assumption) (by first | omega | assumption) fun b_ o_ e_ => ?_ | refine SlR.nxS (by assumption) (by first | omega | assumption) fun b_ o_ a_ n_ c_ e_ s_ l_ => ?_ | refine SlR.ixI (by assumption) (by first | omega | assumption) (by first | omega | assumption) fun b_ o_ e_ r_ => ?_ | refine SlR.ixB (by assumption) (by first | omega | assumption) (by first | omega | assumption) fun b_ o_ e_ => ?_ | refine SlR.ixS (by assumption) (by first | omega | assumption) (by first | omega | assumption) fun b_ o_ a_ n_ c_ e_ s_ => ?_ | fail) | (refine br (fun hc => ?_) (fun hc => ?_) <;> (try simp only [decide_eq_true_eq, decide_eq_false_iff_not, beq_iff_eq, bne_iff_ne, ne_eq, Bool.not_eq_true', Bool.not_eq_false', Bool.not_eq_true, Bool.not_eq_false, beq_eq_false_iff_ne, bne_eq_false_iff_eq, Int.not_lt, Int.not_le, gt_iff_lt, ge_iff_le, Decidable.not_not] at hc)) | (refine H.nw fun g_ H => ?_) | fail) | (first | refine H.st (by simp) fun g_ H => ?_ | refine H.sts (by simp) fun g_ H => ?_ | fail) | fail)
        exact ⟨_, _, _, _, _, _, _, by rw [hb], H.oldE, bad hb _⟩
      · repeat' (first | (first | ((refine (within_ok _ _ _).mono ?_; rintro v_ g_ ⟨rfl, rfl⟩; refine ⟨_, rfl, ?_⟩)) | (first | refine ldI (by first | assumption | exact H.ld (by rfl) | exact H.ldO (by assumption)) ?_ | refine ldS (by first | assumption | exact H.ld (by rfl) | exact H.ldO (by assumption)) ?_ | refine ldB (by first | assumption | exact H.ld (by rfl) | exact H.ldO (by assumption)) ?_ | refine ldT (by first | assumption | exact H.ld (by rfl) | exact H.ldO (by assumption)) ?_ | refine re1 (by first | assumption | exact H.ld (by rfl) | exact H.ldO (by assumption)) ?_ | fail) | (first | refine SlR.nxI (by assumption) (by first | omega | assumption) fun b_ o_ e_ r_ => ?_ | refine SlR.nxB (by assumption) (by first | omega | assumption) fun b_ o_ e_ => ?_ | refine SlR.nxS (by assumption) (by first | omega | assumption) fun b_ o_ a_ n_ c_ e_ s_ l_ => ?_ | refine SlR.ixI (by assumption) (by first | omega | assumption) (by first | omega | assumption) fun b_ o_ e_ r_ => ?_ | refine SlR.ixB (by assumption) (by first | omega | assumption) (by first | omega | assumption) fun b_ o_ e_ => ?_ | refine SlR.ixS (by assumption) (by first | omega | assumption) (by first | omega | assumption) fun b_ o_ a_ n_ c_ e_ s_ => ?_ | fail) | (refine br (fun hc => ?_) (fun hc => ?_) <;> (try simp only [decide_eq_true_eq, decide_eq_false_iff_not, beq_iff_eq, bne_iff_ne, ne_eq, Bool.not_eq_true', Bool.not_eq_false', Bool.not_eq_true, Bool.not_eq_false, beq_eq_false_iff_ne, bne_eq_false_iff_eq, Int.not_lt, Int.not_le, gt_iff_lt, ge_iff_le, Decidable.not_not] at hc)) | (refine H.nw fun g_ H => ?_) | fail) | (first | refine H.st (by simp) fun g_ H => ?_ | refine H.sts (by simp) fun g_ H => ?_ | fail) | fail)
        refine (take_ok (w.fold _) hS.1 (by omega) (H.midSl h8.size a' n' c')).mono ?_
        rintro v g3 ⟨rfl, a3, n3, c3, H⟩
        have H := H.ofMid
        refine ⟨_, rfl, ?_⟩
        refine H.nw fun g4 H => ?_
        refine H.ap1 (by exact ⟨rfl, rfl, takeH_code _ _⟩) (by omega) fun ad2 cd2 g5 H => ?_
        have e := takeSnoc (xs := ls) default (show m < ls.length by omega)
        have hmax : x.offset + ((m + 1 : Nat) : Int) ≤ 1000 := by omega
        refine UpSl.next (by omega) hi ⟨a3, n3, c3, cds ++ [(takeH (foldH x (ls.take m)) (ls.getD m default)).2], rfl, fun s hs => ?_, hmax, ?_⟩
        · rw [← e] at hs
          rcases List.mem_append.1 hs with hs | hs
          · exact hall s hs
          · simp at hs; subst hs; simpa using hok
        · rw [← e, foldH_snoc]
          exact H.to (by repeat' (first | exact trivial | exact rfl | omega | (refine ⟨?_, ?_⟩)))
    · have hb : (ls.all sayOk && decide (x.offset + ls.length ≤ 1000)) = false := by
        rw [Bool.and_eq_false_iff]; left
        rw [List.all_eq_false]
        exact ⟨_, hmem, by rw [hc]; simp⟩
      repeat' (first | (first | ((refine (within_ok _ _ _).mono ?_; rintro v_ g_ ⟨rfl, rfl⟩; refine ⟨_, rfl, ?_⟩)) | (first | refine ldI (by first | assumption | exact H.ld (by rfl) | exact H.ldO (by assumption)) ?_ | refine ldS (by first | assumption | exact H.ld (by rfl) | exact H.ldO (by assumption)) ?_ | refine ldB (by first | assumption | exact H.ld (by rfl) | exact H.ldO (by assumption)) ?_ | refine ldT (by first | assumption | exact H.ld (by rfl) | exact H.ldO (by assumption)) ?_ | refine re1 (by first | assumption | exact H.ld (by rfl) | exact H.ldO (by assumption)) ?_ | fail) | (first | refine SlR.nxI (by assumption) (by first | omega | assumption) fun b_ o_ e_ r_ => ?_ | refine SlR.nxB (by assumption) (by first | omega | assumption) fun b_ o_ e_ => ?_ | refine SlR.nxS (by assumption) (by first | omega | assumption) fun b_ o_ a_ n_ c_ e_ s_ l_ => ?_ | refine SlR.ixI (by assumption) (by first | omega | assumption) (by first | omega | assumption) fun b_ o_ e_ r_ => ?_ | refine SlR.ixB (by assumption) (by first | omega | assumption) (by first | omega | assumption) fun b_ o_ e_ => ?_ | refine SlR.ixS (by assumption) (by first | omega | assumption) (by first | omega | assumption) fun b_ o_ a_ n_ c_ e_ s_ => ?_ | fail) | (refine br (fun hc => ?_) (fun hc => ?_) <;> (try simp only [decide_eq_true_eq, decide_eq_false_iff_not, beq_iff_eq, bne_iff_ne, ne_eq, Bool.not_eq_true', Bool.not_eq_false', Bool.not_eq_true, Bool.not_eq_false, beq_eq_false_iff_ne, bne_eq_false_iff_eq, Int.not_lt, Int.not_le, gt_iff_lt, ge_iff_le, Decidable.not_not] at hc)) | (refine H.nw fun g_ H => ?_) | fail) | (first | refine H.st (by simp) fun g_ H => ?_ | refine H.sts (by simp) fun g_ H => ?_ | fail) | fail)
      exact ⟨_, _, _, _, _, _, _, by rw [hb], H.oldE, bad hb _⟩
  · have hmn : m = n2 := by omega
    rw [List.take_of_length_le (by omega)] at H hall
    repeat' (first | (first | ((refine (within_ok _ _ _).mono ?_; rintro v_ g_ ⟨rfl, rfl⟩; refine ⟨_, rfl, ?_⟩)) | (first | refine ldI (by first | assumption | exact H.ld (by rfl) | exact H.ldO (by assumption)) ?_ | refine ldS (by first | assumption | exact H.ld (by rfl) | exact H.ldO (by assumption)) ?_ | refine ldB (by first | assumption | exact H.ld (by rfl) | exact H.ldO (by assumption)) ?_ | refine ldT (by first | assumption | exact H.ld (by rfl) | exact H.ldO (by assumption)) ?_ | refine re1 (by first | assumption | exact H.ld (by rfl) | exact H.ldO (by assumption)) ?_ | fail) | (first | refine SlR.nxI (by assumption) (by first | omega | assumption) fun b_ o_ e_ r_ => ?_ | refine SlR.nxB (by assumption) (by first | omega | assumption) fun b_ o_ e_ => ?_ | refine SlR.nxS (by assumption) (by first | omega | assumption) fun b_ o_ a_ n_ c_ e_ s_ l_ => ?_ | refine SlR.ixI (by assumption) (by first | omega | assumption) (by first | omega | assumption) fun b_ o_ e_ r_ => ?_ | refine SlR.ixB (by assumption) (by first | omega | assumption) (by first | omega | assumption) fun b_ o_ e_ => ?_ | refine SlR.ixS (by assumption) (by first | omega | assumption) (by first | omega | assumption) fun b_ o_ a_ n_ c_ e_ s_ => ?_ | fail) | (refine br (fun hc => ?_) (fun hc => ?_) <;> (try simp only [decide_eq_true_eq, decide_eq_false_iff_not, beq_iff_eq, bne_iff_ne, ne_eq, Bool.not_eq_true', Bool.not_eq_false', Bool.not_eq_true, Bool.not_eq_false, beq_eq_false_iff_ne, bne_eq_false_iff_eq, Int.not_lt, Int.not_le, gt_iff_lt, ge_iff_le, Decidable.not_not] at hc)) | (refine H.nw fun g_ H => ?_) | fail) | (first | refine H.st (by simp) fun g_ H => ?_ | refine H.sts (by simp) fun g_ H => ?_ | fail) | fail)
    have hg : (ls.all sayOk && decide (x.offset + ls.length ≤ 1000)) = true := by
      rw [Bool.and_eq_true, List.all_eq_true]
      exact ⟨hall, by simp; omega⟩
    exact ⟨a', n', c', _, _, _, _, by rw [hg], H.oldE, fun _ => ⟨rfl, H.to (by repeat' (first | exact trivial | exact rfl | omega | (refine ⟨?_, ?_⟩)))⟩⟩
end
end Go.Proofs.Ytjmhahjmbmiepaa.D
