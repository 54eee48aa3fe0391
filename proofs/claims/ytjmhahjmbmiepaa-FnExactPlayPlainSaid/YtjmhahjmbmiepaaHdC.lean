/- Contracts: texts compared, measurements judged, heads copied. -/
import Derived.Test.YtjmhahjmbmiepaaHdB
import Derived.Lib.Overlaps
namespace Go.Proofs.Ytjmhahjmbmiepaa.D
open Go
set_option linter.unusedVariables false
set_option linter.unusedSimpArgs false

section
variable {h : Heap}
theorem cmpstring_ext (a b : ByteArray) : ExtH PP fn_internal_bytealg_abigen_runtime_cmpstring [.string a, .string b] h fun v h' => v = .int .i64 (bcmp a b) ∧ h' = h := by
  intro w hw
  subst hw
  refine ⟨_, w, ?_, Same.refl w, rfl, rfl⟩
  rw [run_callFunc_extern (e := Extern.BytealgCompare.compare) (Try.func258) (by kernel_rfl) (by kernel_rfl) (by kernel_rfl) (by kernel_rfl)]
  rw [Lib.run_compareString]
  rfl
theorem CompareString_ok (a b : ByteArray) : CallsH PP fn_internal_bytealg_CompareString [.string a, .string b] h fun v h' => v = .int .i64 (bcmp a b) ∧ h' = h := by
  refine calls_internal_bytealg_CompareString _ _ ?_
  unfold M_internal_bytealg_CompareString
  intro w hw
  obtain ⟨v, w', hr, hs, rfl, hh⟩ := cmpstring_ext a b w hw
  exact ⟨_, w', hr, hs, _, rfl, rfl, hh⟩
theorem Compare_ok (a b : ByteArray) : CallsH PP fn_strings_Compare [.string a, .string b] h fun v h' => v = .int .i64 (bcmp a b) ∧ h' = h := by
  refine calls_strings_Compare _ _ ?_
  unfold M_strings_Compare
  refine (CompareString_ok a b).mono ?_
  rintro v h' ⟨rfl, rfl⟩
  exact ⟨_, rfl, rfl, rfl⟩
/-- Slices in two blocks overlap nowhere. -/
theorem overlaps_at {P : Program} {f : FuncId} {fn : Func} {tS tR e : TypeId} {size : Nat} (hf : P.funcs[f]? = some fn) (hname : (fn.name == "runtime.NumGoroutine") = false) (hb : fn.body.isNone = true) (hn : Extern.findNext fn = none)
    (he : Extern.find fn = some (Extern.SlicesOverlaps.overlaps #[tS, tS] #[tR])) (ht : P.underlying tS = some (.slice e)) (hz : ∀ w, (Go.sizeOf e).run P w = .ok size w)
    {b' b o o' la ca lb cb : Nat} (hne : b' ≠ b) {e1 e2 : TypeId} {c1 c2 : List Value} (r1 : Row h b' e1 c1) (r2 : Row h b e2 c2) (hc : c2 ≠ []) :
    ExtH P f [.slice (some ⟨b', o', none⟩) la ca, .slice (some ⟨b, o, none⟩) lb cb] h fun v h' => v = .bool false ∧ h' = h := by
  intro w hw
  subst hw
  refine ⟨_, w, ?_, Same.refl w, rfl, rfl⟩
  rw [run_callFunc_extern hf hname hb hn he]
  unfold Row at r1 r2
  rw [Lib.run_overlaps_apart w tS tR e ht size hz ⟨b', o', none⟩ ⟨b, o, none⟩ la ca lb cb hne e1 e2 c1.length c2.length (by simp [World.shape?, r1]) (by simp [World.shape?, r2]) (by simpa using hc) (by simp [World.frozen?, r1]) (by simp [World.frozen?, r1])]
  rfl
theorem size_of {t : TypeId} {n : Nat} (h : (PP.info? t).map (·.size) = some n) (w : World) : (Go.sizeOf t).run PP w = .ok n w := by
  cases hi : PP.info? t with
  | none => rw [hi] at h; cases h
  | some i =>
    rw [hi] at h
    simp at h
    subst h
    simp [Go.sizeOf, Go.typeInfo, Go.program, hi, Sem.run]
theorem overlapsRow {b' b o o' la ca lb cb : Nat} (hne : b' ≠ b) {e1 e2 : TypeId} {c1 c2 : List Value} (r1 : Row h b' e1 c1) (r2 : Row h b e2 c2) (hc : c2 ≠ []) :
    ExtH PP fn_slices_overlaps_impl_Row [.slice (some ⟨b', o', none⟩) la ca, .slice (some ⟨b, o, none⟩) lb cb] h fun v h' => v = .bool false ∧ h' = h :=
  overlaps_at (tS := ty_S_impl_Row) (tR := ty_bool) (size := 2) Try.func247 (by kernel_rfl) (by kernel_rfl) (by kernel_rfl) (by kernel_rfl) Try.underlying59 (size_of (by kernel_rfl)) hne r1 r2 hc

/-! ### Measurements -/

theorem isSample_ok (a v : Int) : CallsH PP fn_impl_isSample [.agg ⟨[.int .i64 a, .int .i64 v]⟩] h fun r h' => r = .bool (sampleOk a v) ∧ Ext h h' := by
  refine calls_impl_isSample _ _ ?_
  unfold M_impl_isSample sampleOk
  have H := Own.start h
  repeat' (first | (first | ((refine (within_ok _ _ _).mono ?_; rintro v_ g_ ⟨rfl, rfl⟩; refine ⟨_, rfl, ?_⟩)) | (first | refine ldI (by first | assumption | exact H.ld (by rfl) | exact H.ldO (by assumption)) ?_ | refine ldS (by first | assumption | exact H.ld (by rfl) | exact H.ldO (by assumption)) ?_ | refine ldB (by first | assumption | exact H.ld (by rfl) | exact H.ldO (by assumption)) ?_ | refine ldT (by first | assumption | exact H.ld (by rfl) | exact H.ldO (by assumption)) ?_ | refine re1 (by first | assumption | exact H.ld (by rfl) | exact H.ldO (by assumption)) ?_ | fail) | (first | refine SlR.nxI (by assumption) (by first | omega | assumption) fun b_ o_ e_ r_ => ?_ | refine SlR.nxB (by assumption) (by first | omega | assumption) fun b_ o_ e_ => ?_ | refine SlR.nxS (by assumption) (by first | omega | assumption) fun b_ o_ a_ n_ c_ e_ s_ l_ => ?_ | refine SlR.ixI (by assumption) (by first | omega | assumption) (by first | omega | assumption) fun b_ o_ e_ r_ => ?_ | refine SlR.ixB (by assumption) (by first | omega | assumption) (by first | omega | assumption) fun b_ o_ e_ => ?_ | refine SlR.ixS (by assumption) (by first | omega | assumption) (by first | omega | assumption) fun b_ o_ a_ n_ c_ e_ s_ => ?_ | fail) | (refine br (fun hc => ?_) (fun hc => ?_) <;> (try simp only [decide_eq_true_eq, decide_eq_false_iff_not, beq_iff_eq, bne_iff_ne, ne_eq, Bool.not_eq_true', Bool.not_eq_false', Bool.not_eq_true, Bool.not_eq_false, beq_eq_false_iff_ne, bne_eq_false_iff_eq, Int.not_lt, Int.not_le, gt_iff_lt, ge_iff_le, Decidable.not_not] at hc)) | (refine H.nw fun g_ H => ?_) | fail) | fail)
  · exact ⟨by rw [hc, Bool.true_and], H.oldE⟩
  · exact ⟨by rw [hc, Bool.false_and], H.oldE⟩
theorem isSay_ok (x : SayD) (hs : x.name.size < 4611686018427387904) : CallsH PP fn_impl_isSay [.agg ⟨x.cells⟩] h fun v h' => v = .bool (sayOk x) ∧ Ext h h' := by
  refine calls_impl_isSay _ _ _ ?_
  unfold M_impl_isSay sayOk
  have H := Own.start h
  repeat' (first | (first | ((refine (within_ok _ _ _).mono ?_; rintro v_ g_ ⟨rfl, rfl⟩; refine ⟨_, rfl, ?_⟩)) | (first | refine ldI (by first | assumption | exact H.ld (by rfl) | exact H.ldO (by assumption)) ?_ | refine ldS (by first | assumption | exact H.ld (by rfl) | exact H.ldO (by assumption)) ?_ | refine ldB (by first | assumption | exact H.ld (by rfl) | exact H.ldO (by assumption)) ?_ | refine ldT (by first | assumption | exact H.ld (by rfl) | exact H.ldO (by assumption)) ?_ | refine re1 (by first | assumption | exact H.ld (by rfl) | exact H.ldO (by assumption)) ?_ | fail) | (first | refine SlR.nxI (by assumption) (by first | omega | assumption) fun b_ o_ e_ r_ => ?_ | refine SlR.nxB (by assumption) (by first | omega | assumption) fun b_ o_ e_ => ?_ | refine SlR.nxS (by assumption) (by first | omega | assumption) fun b_ o_ a_ n_ c_ e_ s_ l_ => ?_ | refine SlR.ixI (by assumption) (by first | omega | assumption) (by first | omega | assumption) fun b_ o_ e_ r_ => ?_ | refine SlR.ixB (by assumption) (by first | omega | assumption) (by first | omega | assumption) fun b_ o_ e_ => ?_ | refine SlR.ixS (by assumption) (by first | omega | assumption) (by first | omega | assumption) fun b_ o_ a_ n_ c_ e_ s_ => ?_ | fail) | (refine br (fun hc => ?_) (fun hc => ?_) <;> (try simp only [decide_eq_true_eq, decide_eq_false_iff_not, beq_iff_eq, bne_iff_ne, ne_eq, Bool.not_eq_true', Bool.not_eq_false', Bool.not_eq_true, Bool.not_eq_false, beq_eq_false_iff_ne, bne_eq_false_iff_eq, Int.not_lt, Int.not_le, gt_iff_lt, ge_iff_le, Decidable.not_not] at hc)) | (refine H.nw fun g_ H => ?_) | fail) | (refine (isWord_ok _ _ hs).mono ?_; rintro v_ g_ ⟨rfl, rfl⟩; refine ⟨_, rfl, ?_⟩) | (refine (isSample_ok _ _).mono ?_; rintro v_ g_ ⟨rfl, f⟩; have H := H.ext f; refine ⟨_, rfl, ?_⟩) | fail)
  · exact ⟨by rw [hc, Bool.true_and], H.oldE⟩
  · exact ⟨by rw [hc, Bool.false_and], H.oldE⟩
theorem l13Say_ok (x : SayD) (hs : x.name.size < 4611686018427387904) : CallsH PP fn_spec_l13Say [.agg ⟨x.cells⟩] h fun v h' => v = .bool (sayOk x) ∧ Ext h h' := by
  refine calls_spec_l13Say _ _ _ ?_
  unfold M_spec_l13Say sayOk sampleOk
  have H := Own.start h
  repeat' (first | (first | ((refine (within_ok _ _ _).mono ?_; rintro v_ g_ ⟨rfl, rfl⟩; refine ⟨_, rfl, ?_⟩)) | (first | refine ldI (by first | assumption | exact H.ld (by rfl) | exact H.ldO (by assumption)) ?_ | refine ldS (by first | assumption | exact H.ld (by rfl) | exact H.ldO (by assumption)) ?_ | refine ldB (by first | assumption | exact H.ld (by rfl) | exact H.ldO (by assumption)) ?_ | refine ldT (by first | assumption | exact H.ld (by rfl) | exact H.ldO (by assumption)) ?_ | refine re1 (by first | assumption | exact H.ld (by rfl) | exact H.ldO (by assumption)) ?_ | fail) | (first | refine SlR.nxI (by assumption) (by first | omega | assumption) fun b_ o_ e_ r_ => ?_ | refine SlR.nxB (by assumption) (by first | omega | assumption) fun b_ o_ e_ => ?_ | refine SlR.nxS (by assumption) (by first | omega | assumption) fun b_ o_ a_ n_ c_ e_ s_ l_ => ?_ | refine SlR.ixI (by assumption) (by first | omega | assumption) (by first | omega | assumption) fun b_ o_ e_ r_ => ?_ | refine SlR.ixB (by assumption) (by first | omega | assumption) (by first | omega | assumption) fun b_ o_ e_ => ?_ | refine SlR.ixS (by assumption) (by first | omega | assumption) (by first | omega | assumption) fun b_ o_ a_ n_ c_ e_ s_ => ?_ | fail) | (refine br (fun hc => ?_) (fun hc => ?_) <;> (try simp only [decide_eq_true_eq, decide_eq_false_iff_not, beq_iff_eq, bne_iff_ne, ne_eq, Bool.not_eq_true', Bool.not_eq_false', Bool.not_eq_true, Bool.not_eq_false, beq_eq_false_iff_ne, bne_eq_false_iff_eq, Int.not_lt, Int.not_le, gt_iff_lt, ge_iff_le, Decidable.not_not] at hc)) | (refine H.nw fun g_ H => ?_) | fail) | ((refine (l1In_ok _ _ _).mono ?_; rintro v_ g_ ⟨rfl, rfl⟩; refine ⟨_, rfl, ?_⟩)) | (refine (l3Name_ok _ _ hs).mono ?_; rintro v_ g_ ⟨rfl, rfl⟩; refine ⟨_, rfl, ?_⟩) | fail)
  all_goals exact ⟨by simp [*], H.oldE⟩
end
end Go.Proofs.Ytjmhahjmbmiepaa.D
