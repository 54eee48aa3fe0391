/- What was there before; marks in their own memory. -/
import Derived.Test.YtjmhahjmbmiepaaSepO
import Derived.Test.YtjmhahjmbmiepaaCtC
import Derived.Test.YtjmhahjmbmiepaaBkH
namespace Go.Proofs.Ytjmhahjmbmiepaa.D
open Go
set_option linter.unusedVariables false
set_option linter.unusedSimpArgs false

section
variable {h h0 : Heap} {L : List Asn}
theorem markIntS_own {xs : List Int} {a : Option Addr} {n c : Nat} {k : Int} (H : Own h (slA kI xs a n c :: L)) (hk : 0 ≤ k) (hm : k + n < 4611686018427387904) :
    CallsH PP fn_laws_markIntS [.slice a n c, .int .i64 k] h fun v h' => v = .int .i64 (k + n) ∧ Own h' (slA kI (mkI k xs) a n c :: L) := by
  obtain ⟨F, nd, s, w⟩ := H.slTurn
  refine (markIntS_ok s nd hk hm).mono ?_
  rintro v h' ⟨rfl, s', f⟩
  exact ⟨rfl, w _ _ _ _ _ _ F f s' nd fun x hx => .inl hx⟩
theorem markBoolS_own {xs : List Bool} {a : Option Addr} {n c : Nat} {k : Int} (H : Own h (slA kB xs a n c :: L)) (hk : 0 ≤ k) (hm : k + n < 4611686018427387904) :
    CallsH PP fn_laws_markBoolS [.slice a n c, .int .i64 k] h fun v h' => v = .int .i64 (k + n) ∧ Own h' (slA kB (mkB k xs) a n c :: L) := by
  obtain ⟨F, nd, s, w⟩ := H.slTurn
  refine (markBoolS_ok s nd hk hm).mono ?_
  rintro v h' ⟨rfl, s', f⟩
  exact ⟨rfl, w _ _ _ _ _ _ F f s' nd fun x hx => .inl hx⟩
theorem markSnapStepS_own {xs : List StepD} {a : Option Addr} {n c : Nat} {k : Int} (H : Own h (slA kSI xs a n c :: L)) (hk : 0 ≤ k) (hm : k + 4 * n < 4611686018427387904) :
    CallsH PP fn_laws_markSnapStepS [.slice a n c, .int .i64 k] h fun v h' => v = .int .i64 (k + 4 * n) ∧ Own h' L := by
  obtain ⟨F, nd, s, w⟩ := H.wreck
  refine (markSnapStepS_ok s nd hk hm).mono ?_
  rintro v h' ⟨rfl, f⟩
  exact ⟨rfl, w _ f⟩
theorem markIntSS_own {xs : List (List Int)} {a : Option Addr} {n c : Nat} {k : Int} (H : Own h (slA kIS xs a n c :: L)) (hk : 0 ≤ k) (hm : k + total xs < 4611686018427387904) :
    CallsH PP fn_laws_markIntSS [.slice a n c, .int .i64 k] h fun v h' => v = .int .i64 (k + total xs) ∧ Own h' (slA kIS (mkL mkI k xs) a n c :: L) := by
  obtain ⟨F, nd, s, w⟩ := H.slTurn
  refine (markIntSS_ok s nd hk hm).mono ?_
  rintro v h' ⟨rfl, s', f⟩
  exact ⟨rfl, w _ _ _ _ _ _ F f s' nd fun x hx => .inl hx⟩
theorem markBoolSS_own {xs : List (List Bool)} {a : Option Addr} {n c : Nat} {k : Int} (H : Own h (slA kBS xs a n c :: L)) (hk : 0 ≤ k) (hm : k + total xs < 4611686018427387904) :
    CallsH PP fn_laws_markBoolSS [.slice a n c, .int .i64 k] h fun v h' => v = .int .i64 (k + total xs) ∧ Own h' (slA kBS (mkL mkB k xs) a n c :: L) := by
  obtain ⟨F, nd, s, w⟩ := H.slTurn
  refine (markBoolSS_ok s nd hk hm).mono ?_
  rintro v h' ⟨rfl, s', f⟩
  exact ⟨rfl, w _ _ _ _ _ _ F f s' nd fun x hx => .inl hx⟩
theorem toIntS_own {xs : List Int} {a : Option Addr} {n c : Nat} (hx : RdI h0 xs a n) (hm : oldA h0 ∈ L) (H : Own h L) (hmax : n ≤ 1048576) :
    CallsH PP fn_laws_toIntS [.slice a n c] h fun v h' => ∃ a', v = .slice a' n n ∧ Own h' (slA kI xs a' n n :: L) := by
  refine (toIntS_ok (hx.ext (H.old hm)) (by omega)).mono ?_
  rintro v h' ⟨a', F', rfl, s, fr, f⟩
  exact ⟨a', rfl, H.slNew f s fr⟩
theorem toSnapStepS_own {xs : List StepD} {a : Option Addr} {n c : Nat} (hx : RdS h0 xs a n) (hm : oldA h0 ∈ L) (H : Own h L) (hmax : n ≤ 1048576) :
    CallsH PP fn_laws_toSnapStepS [.slice a n c] h fun v h' => ∃ a', v = .slice a' n n ∧ Own h' (slA kSI xs a' n n :: L) := by
  refine (toSnapStepS_ok (hx.ext (H.old hm)) (by omega)).mono ?_
  rintro v h' ⟨a', F', rfl, s, fr, f⟩
  exact ⟨a', rfl, H.slNew f s fr⟩
theorem eqIntS_own {xs ys : List Int} {a a' : Option Addr} {n n' c c' : Nat} (hm : slA kI xs a n c ∈ L) (hm' : slA kI ys a' n' c' ∈ L) (H : Own h L) :
    CallsH PP fn_laws_eqIntS [.slice a n c, .slice a' n' c'] h fun v h' => v = .bool (decide (xs = ys)) ∧ Own h' L := by
  obtain ⟨F, s⟩ := H.sl hm
  obtain ⟨G, t⟩ := H.sl hm'
  refine (eqIntS_ok s t).mono ?_
  rintro v h' ⟨rfl, rfl⟩
  exact ⟨rfl, H⟩
theorem eqBoolS_own {xs ys : List Bool} {a a' : Option Addr} {n n' c c' : Nat} (hm : slA kB xs a n c ∈ L) (hm' : slA kB ys a' n' c' ∈ L) (H : Own h L) :
    CallsH PP fn_laws_eqBoolS [.slice a n c, .slice a' n' c'] h fun v h' => v = .bool (decide (xs = ys)) ∧ Own h' L := by
  obtain ⟨F, s⟩ := H.sl hm
  obtain ⟨G, t⟩ := H.sl hm'
  refine (eqBoolS_ok s t).mono ?_
  rintro v h' ⟨rfl, rfl⟩
  exact ⟨rfl, H⟩
theorem eqSnapStepS_own {xs ys : List StepD} {a a' : Option Addr} {n n' c c' : Nat} (hm : slA kSI xs a n c ∈ L) (hm' : slA kSI ys a' n' c' ∈ L) (H : Own h L) :
    CallsH PP fn_laws_eqSnapStepS [.slice a n c, .slice a' n' c'] h fun v h' => v = .bool (decide (xs = ys)) ∧ Own h' L := by
  obtain ⟨F, s⟩ := H.sl hm
  obtain ⟨G, t⟩ := H.sl hm'
  refine (eqSnapStepS_ok s t).mono ?_
  rintro v h' ⟨rfl, f⟩
  exact ⟨rfl, H.ext f⟩
theorem heldBoolS_own {xs : List Bool} {a : Option Addr} {n c : Nat} {k : Int} (hm : slA kB (mkB k xs) a n c ∈ L) (H : Own h L) (hk : 0 ≤ k) (hb : k + n < 4611686018427387904) :
    CallsH PP fn_laws_heldBoolS [.slice a n c, .int .i64 k] h fun v h' => v = .int .i64 (k + n) ∧ Own h' L := by
  obtain ⟨F, s⟩ := H.sl hm
  refine (heldBoolS_ok s hk hb).mono ?_
  rintro v h' ⟨rfl, rfl⟩
  exact ⟨rfl, H⟩

theorem Own.bankAt {x : BankD} {d : BankH} (H : Own h (bankL x d L)) : ∃ F0 F1 F2 F3 F4, BankAt h x d F0 F1 F2 F3 F4 := by
  obtain ⟨F0, s0⟩ := H.sl m0
  obtain ⟨F1, s1⟩ := H.sl m1
  obtain ⟨F2, s2⟩ := H.sl m2
  obtain ⟨F3, s3⟩ := H.sl m3
  obtain ⟨F4, s4⟩ := H.sl m4
  exact ⟨F0, F1, F2, F3, F4, ⟨s0, s1, s2, s3, s4⟩⟩
theorem eqBank_own {x y : BankD} {d e : BankH} {L1 L2 : List Asn} (H : Own h L) (H1 : Own h (bankL x d L1)) (H2 : Own h (bankL y e L2)) :
    CallsH PP fn_laws_eqBank [.agg ⟨d.cells⟩, .agg ⟨e.cells⟩] h fun v h' => v = .bool (decide (x = y)) ∧ Own h' L := by
  obtain ⟨_, _, _, _, _, b1⟩ := H1.bankAt
  obtain ⟨_, _, _, _, _, b2⟩ := H2.bankAt
  refine (eqBank_ok b1 b2).mono ?_
  rintro v h' ⟨rfl, f⟩
  exact ⟨rfl, H.ext f⟩
theorem heldBank_own {x : BankD} {d : BankH} {L1 : List Asn} {k : Int} (H : Own h L) (H1 : Own h (bankL (mkBank k x) d L1)) (hk : 0 ≤ k) (hm : k + x.size < 4611686018427387904) :
    CallsH PP fn_laws_heldBank [.agg ⟨d.cells⟩, .int .i64 k] h fun v h' => v = .int .i64 (k + x.size) ∧ Own h' L := by
  obtain ⟨_, _, _, _, _, b1⟩ := H1.bankAt
  refine (heldBank_ok b1 hk hm).mono ?_
  rintro v h' ⟨rfl, f⟩
  exact ⟨rfl, H.ext f⟩
theorem markBank_own {x : BankD} {d : BankH} {k : Int} (H : Own h (bankL x d L)) (hk : 0 ≤ k) (hm : k + x.size < 4611686018427387904) :
    CallsH PP fn_laws_markBank [.agg ⟨d.cells⟩, .int .i64 k] h fun v h' => v = .int .i64 (k + x.size) ∧ Own h' (bankL (mkBank k x) d L) := by
  refine calls_laws_markBank _ _ _ _ _ _ _ _ _ _ _ _ _ _ _ _ ?_
  unfold M_laws_markBank
  have l0 := (H.len m0).1
  have l2 := (H.len m2).1
  unfold BankD.size at *
  intro h7 e7
  have H := H.newE e7
  refine ⟨_, _, _, H.cell m0 rfl, (markIntS_own H.p1 hk (by omega)).mono ?_⟩
  rintro v g0 ⟨rfl, H⟩
  rw [l0]
  refine ⟨_, rfl, _, _, _, H.cell m1 rfl, (markIntSS_own H.p2 (by omega) (by omega)).mono ?_⟩
  rintro v g1 ⟨rfl, H⟩
  refine ⟨_, rfl, _, _, _, H.cell m2 rfl, (markIntS_own H.p3 (by omega) (by omega)).mono ?_⟩
  rintro v g2 ⟨rfl, H⟩
  rw [l2]
  refine ⟨_, rfl, _, _, _, H.cell m3 rfl, (markBoolSS_own H.p4 (by omega) (by omega)).mono ?_⟩
  rintro v g3 ⟨rfl, H⟩
  refine ⟨_, rfl, _, _, _, H.cell m4 rfl, (markIntSS_own H.p5 (by omega) (by omega)).mono ?_⟩
  rintro v g4 ⟨rfl, H⟩
  exact ⟨_, rfl, by congr 1; omega, H.r5.p1.p2.p3.p4⟩
end
theorem total_bound {α : Type} {B : Nat} : ∀ {xs : List (List α)}, (∀ j, (xs.getD j []).length ≤ B) → total xs ≤ xs.length * B
  | [], _ => by simp [total]
  | x :: xs, h => by
    have h0 := h 0
    have := total_bound (xs := xs) fun j => h (j + 1)
    simp only [total, List.length_cons, Nat.succ_mul]
    simp at h0
    omega
theorem WfB.size {n i : Nat} {x : BankD} (w : WfB n i x) (hi : i ≤ 120) : x.size ≤ 100000 := by
  have hn := w.le
  have hnn := mul_le5 hn
  have t1 := total_bound (xs := x.ways) (B := 120) fun j => Nat.le_trans (w.way j) hi
  have t3 : total x.heard ≤ x.heard.length * 5 := total_bound fun j => by
    rcases Nat.lt_or_ge j n with hh | hh
    · rw [w.hrow j hh]; exact hn
    · rw [List.getD_eq_getElem?_getD, List.getElem?_eq_none (by rw [w.heard]; exact hh)]; simp
  have t4 : total x.found ≤ x.found.length * 5 := total_bound fun j => by
    rcases Nat.lt_or_ge j n with hh | hh
    · rw [w.frow j hh]; exact hn
    · rw [List.getD_eq_getElem?_getD, List.getElem?_eq_none (by rw [w.found]; exact hh)]; simp
  unfold BankD.size
  rw [w.coins, w.kept]
  rw [w.ways] at t1
  rw [w.heard] at t3
  rw [w.found] at t4
  omega
theorem play_size (xs : List Int) (ss : List StepD) : (playD xs ss).bank.size ≤ 100000 := by
  unfold playD
  split
  · rename_i h
    simp only [Bool.and_eq_true, decide_eq_true_eq] at h
    have hn := coinsOk_len h.1
    have wf := (WfB.new (n := xs.length) (xs := xs) hn.1 hn.2 rfl).run ss ss.length (Nat.le_refl _)
    rw [List.take_length] at wf
    exact wf.size h.2
  · simp [nilD, BankD.size, total]
end Go.Proofs.Ytjmhahjmbmiepaa.D
