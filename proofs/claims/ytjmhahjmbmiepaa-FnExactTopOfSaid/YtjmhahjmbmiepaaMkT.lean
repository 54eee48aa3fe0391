/- Texts of marks. -/
import Derived.Test.YtjmhahjmbmiepaaKdB
import Derived.Test.YtjmhahjmbmiepaaMm
namespace Go.Proofs.Ytjmhahjmbmiepaa.D
open Go
set_option linter.unusedVariables false
set_option linter.unusedSimpArgs false

def dgF : Nat → Nat → ByteArray → ByteArray
  | 0, _, acc => acc
  | f + 1, j, acc => if j = 0 then acc else dgF f (j / 10) ((⟨⟨[UInt8.ofNat (48 + j % 10)]⟩⟩ : ByteArray) ++ acc)
def mtext (k : Int) : ByteArray := if k ≤ 0 then (⟨⟨[109, 48]⟩⟩ : ByteArray) else (⟨⟨[109]⟩⟩ : ByteArray) ++ dgF k.toNat k.toNat (⟨⟨[]⟩⟩ : ByteArray)
theorem dgF_zero (f : Nat) (acc : ByteArray) : dgF f 0 acc = acc := by cases f <;> simp [dgF]
section
variable {h : Heap} {L : List Asn}
theorem size1 (b : UInt8) (s : ByteArray) : ((⟨⟨[b]⟩⟩ : ByteArray) ++ s).size = 1 + s.size := by rw [ByteArray.size_append]; rfl
theorem markText_ok {k : Int} (hk : k < 4611686018427387904) : CallsH PP fn_laws_markText [.int .i64 k] h fun v h' => v = .string (mtext k) ∧ Ext h h' := by
  refine calls_laws_markText _ ?_
  unfold M_laws_markText
  (refine br (fun hc => ?_) (fun hc => ?_) <;> (try simp only [decide_eq_true_eq, decide_eq_false_iff_not, beq_iff_eq, bne_iff_ne, ne_eq, Bool.not_eq_true', Bool.not_eq_false', Bool.not_eq_true, Bool.not_eq_false, beq_eq_false_iff_ne, bne_eq_false_iff_eq, Int.not_lt, Int.not_le, gt_iff_lt, ge_iff_le, Decidable.not_not] at hc))
  · exact ⟨by unfold mtext; rw [if_pos hc], Frm.refl _ _⟩
  · refine ⟨fun vs g => ∃ (f j : Nat) (acc : ByteArray), vs = [.int .i64 (j : Int), .string acc] ∧ j ≤ f ∧ dgF f j acc = dgF k.toNat k.toNat (⟨⟨[]⟩⟩ : ByteArray) ∧ acc.size + j ≤ k.toNat ∧ Own g [oldA h],
      fun vs _ => (ivOf vs 0).toNat, ⟨k.toNat, k.toNat, _, by rw [Int.toNat_of_nonneg (by omega)], Nat.le_refl _, rfl, by simp [ByteArray.size], Own.start h⟩, ?_⟩
    rintro g x s ⟨f, j, acc, hv, hjf, hd, hsz, H⟩
    simp at hv
    obtain ⟨rfl, rfl⟩ := hv
    (refine br (fun hc => ?_) (fun hc => ?_) <;> (try simp only [decide_eq_true_eq, decide_eq_false_iff_not, beq_iff_eq, bne_iff_ne, ne_eq, Bool.not_eq_true', Bool.not_eq_false', Bool.not_eq_true, Bool.not_eq_false, beq_eq_false_iff_ne, bne_eq_false_iff_eq, Int.not_lt, Int.not_le, gt_iff_lt, ge_iff_le, Decidable.not_not] at hc))
    · obtain ⟨f, rfl⟩ : ∃ f', f = f' + 1 := ⟨f - 1, by omega⟩
      have hm : Int.tmod (j : Int) 10 = ((j % 10 : Nat) : Int) := by rw [Int.tmod_eq_emod_of_nonneg (by omega)]; omega
      have hq : IntKind.i64.wrap (Int.tdiv (j : Int) 10) = ((j / 10 : Nat) : Int) := by
        rw [Int.tdiv_eq_ediv_of_nonneg (by omega), wrap64_of (by omega) (by omega)]; omega
      have hb : IntKind.u8.wrap (IntKind.i64.wrap (48 + Int.tmod (j : Int) 10)) = ((UInt8.ofNat (48 + j % 10)).toNat : Int) := by
        rw [hm, wrap64_of (by omega) (by omega)]
        have hlt : j % 10 < 10 := Nat.mod_lt _ (by omega)
        have e1 : (UInt8.ofNat (48 + j % 10)).toNat = 48 + j % 10 := by simp; omega
        rw [e1]
        unfold IntKind.wrap
        simp only [IntKind.bits, IntKind.signed]
        simp
        omega
      rw [hq, hb]
      refine ⟨by decide, ?_⟩
      refine H.nw fun g2 H => ?_
      refine ⟨(fun h => by cases h), [UInt8.ofNat (48 + j % 10)], ?_, ?_⟩
      · have := cellsRow (pre := []) (post := []) (o := 0) (m := 1) (by simpa using H.row' g.size) rfl rfl
        exact this
      refine ⟨by rw [show ByteArray.size (⟨⟨[UInt8.ofNat (48 + j % 10)]⟩⟩ : ByteArray) = 1 from rfl]; omega, by decide, ⟨f, j / 10, _, rfl, by omega, ?_, ?_, H.to (by repeat' (first | exact trivial | exact rfl | omega | (refine ⟨?_, ?_⟩)))⟩, by simp [ivOf]; omega⟩
      · rw [← hd]
        conv => rhs; unfold dgF
        rw [if_neg (by omega)]
      · rw [size1]; omega
    · have hj0 : j = 0 := by omega
      subst hj0
      rw [dgF_zero] at hd
      refine ⟨by rw [show ByteArray.size (⟨⟨[109]⟩⟩ : ByteArray) = 1 from rfl]; omega, ?_, H.oldE⟩
      unfold mtext
      rw [if_neg (by omega), ← hd]

theorem take_eq_snoc {α : Type} {xs ys : List α} {i : Nat} (d : α) (h : xs.take i = ys.take i) (hx : i < xs.length) (hy : i < ys.length) (he : xs.getD i d = ys.getD i d) : xs.take (i + 1) = ys.take (i + 1) := by
  rw [← takeSnoc d hx, ← takeSnoc d hy, h, he]
end
end Go.Proofs.Ytjmhahjmbmiepaa.D
