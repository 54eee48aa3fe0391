/- Contracts: banks marked and held. -/
import Derived.Test.YtjmhahjmbmiepaaCtB
namespace Go.Proofs.Ytjmhahjmbmiepaa.D
open Go
set_option linter.unusedVariables false
set_option linter.unusedSimpArgs false

def BankD.size (x : BankD) : Nat := x.coins.length + total x.ways + x.kept.length + total x.heard + total x.found
def mkBank (k : Int) (x : BankD) : BankD :=
  ⟨mkI k x.coins, mkL mkI (k + x.coins.length) x.ways, mkI (k + x.coins.length + total x.ways) x.kept, mkL mkB (k + x.coins.length + total x.ways + x.kept.length) x.heard,
    mkL mkI (k + x.coins.length + total x.ways + x.kept.length + total x.heard) x.found⟩

theorem nd5 {F0 F1 F2 F3 F4 : List Nat} (h : (F0 ++ F1 ++ F2 ++ F3 ++ F4).Nodup) :
    (F0.Nodup ∧ F1.Nodup ∧ F2.Nodup ∧ F3.Nodup ∧ F4.Nodup) ∧
    (∀ x, x ∈ F0 → x ∉ F1 ∧ x ∉ F2 ∧ x ∉ F3 ∧ x ∉ F4) ∧ (∀ x, x ∈ F1 → x ∉ F0 ∧ x ∉ F2 ∧ x ∉ F3 ∧ x ∉ F4) ∧ (∀ x, x ∈ F2 → x ∉ F0 ∧ x ∉ F1 ∧ x ∉ F3 ∧ x ∉ F4) ∧
    (∀ x, x ∈ F3 → x ∉ F0 ∧ x ∉ F1 ∧ x ∉ F2 ∧ x ∉ F4) ∧ (∀ x, x ∈ F4 → x ∉ F0 ∧ x ∉ F1 ∧ x ∉ F2 ∧ x ∉ F3) := by
  obtain ⟨h, h4, d4⟩ := List.nodup_append.1 h
  obtain ⟨h, h3, d3⟩ := List.nodup_append.1 h
  obtain ⟨h, h2, d2⟩ := List.nodup_append.1 h
  obtain ⟨h0, h1, d1⟩ := List.nodup_append.1 h
  refine ⟨⟨h0, h1, h2, h3, h4⟩, fun x m => ⟨fun y => ?_, fun y => ?_, fun y => ?_, fun y => ?_⟩, fun x m => ⟨fun y => ?_, fun y => ?_, fun y => ?_, fun y => ?_⟩,
    fun x m => ⟨fun y => ?_, fun y => ?_, fun y => ?_, fun y => ?_⟩, fun x m => ⟨fun y => ?_, fun y => ?_, fun y => ?_, fun y => ?_⟩, fun x m => ⟨fun y => ?_, fun y => ?_, fun y => ?_, fun y => ?_⟩⟩
  · exact d1 x m x y rfl
  · exact d2 x (by simp [m]) x y rfl
  · exact d3 x (by simp [m]) x y rfl
  · exact d4 x (by simp [m]) x y rfl
  · exact d1 x y x m rfl
  · exact d2 x (by simp [m]) x y rfl
  · exact d3 x (by simp [m]) x y rfl
  · exact d4 x (by simp [m]) x y rfl
  · exact d2 x (by simp [y]) x m rfl
  · exact d2 x (by simp [y]) x m rfl
  · exact d3 x (by simp [m]) x y rfl
  · exact d4 x (by simp [m]) x y rfl
  · exact d3 x (by simp [y]) x m rfl
  · exact d3 x (by simp [y]) x m rfl
  · exact d3 x (by simp [y]) x m rfl
  · exact d4 x (by simp [m]) x y rfl
  · exact d4 x (by simp [y]) x m rfl
  · exact d4 x (by simp [y]) x m rfl
  · exact d4 x (by simp [y]) x m rfl
  · exact d4 x (by simp [y]) x m rfl

section
variable {h : Heap}

theorem markBank_ok {x : BankD} {d : BankH} {F0 F1 F2 F3 F4 : List Nat} {k : Int} (hx : BankAt h x d F0 F1 F2 F3 F4) (hF : (F0 ++ F1 ++ F2 ++ F3 ++ F4).Nodup) (hk : 0 ≤ k) (hm : k + x.size < 4611686018427387904) :
    CallsH PP fn_laws_markBank [.agg ⟨d.cells⟩, .int .i64 k] h fun v h' => v = .int .i64 (k + x.size) ∧ BankAt h' (mkBank k x) d F0 F1 F2 F3 F4 ∧ Frm (F0 ++ F1 ++ F2 ++ F3 ++ F4) h h' := by
  refine calls_laws_markBank _ _ _ _ _ _ _ _ _ _ _ _ _ _ _ _ ?_
  unfold M_laws_markBank
  obtain ⟨⟨n0, n1, n2, n3, n4⟩, p0, p1, p2, p3, p4⟩ := nd5 hF
  have hn0 := hx.s0.1
  have hn2 := hx.s2.1
  unfold BankD.size at *
  have lo : ∀ y ∈ F0 ++ F1 ++ F2 ++ F3 ++ F4, y < h.size := by
    intro y hy
    simp only [List.mem_append] at hy
    rcases hy with (((hy | hy) | hy) | hy) | hy
    · exact hx.s0.lt y hy
    · exact hx.s1.lt y hy
    · exact hx.s2.lt y hy
    · exact hx.s3.lt y hy
    · exact hx.s4.lt y hy
  have out : ∀ F : List Nat, (∀ y ∈ F, y ∈ F0 ++ F1 ++ F2 ++ F3 ++ F4) → h.size ∉ F := fun F hf hm => Nat.lt_irrefl _ (lo _ (hf _ hm))
  intro h7 e7
  obtain ⟨r, f7, s7⟩ := newStep e7
  have hx := hx.ext f7
  obtain ⟨a0, a1, a2, a3, a4⟩ := hx
  refine ⟨_, _, _, r.at rfl, (markIntS_ok a0 n0 hk (by omega)).mono ?_⟩
  rintro v g0 ⟨rfl, a0, w0⟩
  rw [hn0]
  have r := r.frm w0 (out _ fun y hy => by simp [hy])
  have a1 := a1.frm w0 fun y hy => (p1 y hy).1
  have a2 := a2.frm w0 fun y hy => (p2 y hy).1
  have a3 := a3.frm w0 fun y hy => (p3 y hy).1
  have a4 := a4.frm w0 fun y hy => (p4 y hy).1
  refine ⟨_, rfl, _, _, _, r.at rfl, (markIntSS_ok a1 n1 (by omega) (by omega)).mono ?_⟩
  rintro v g1 ⟨rfl, a1, w1⟩
  have r := r.frm w1 (out _ fun y hy => by simp [hy])
  have a0 := a0.frm w1 fun y hy => (p0 y hy).1
  have a2 := a2.frm w1 fun y hy => (p2 y hy).2.1
  have a3 := a3.frm w1 fun y hy => (p3 y hy).2.1
  have a4 := a4.frm w1 fun y hy => (p4 y hy).2.1
  refine ⟨_, rfl, _, _, _, r.at rfl, (markIntS_ok a2 n2 (by omega) (by omega)).mono ?_⟩
  rintro v g2 ⟨rfl, a2, w2⟩
  rw [hn2]
  have r := r.frm w2 (out _ fun y hy => by simp [hy])
  have a0 := a0.frm w2 fun y hy => (p0 y hy).2.1
  have a1 := a1.frm w2 fun y hy => (p1 y hy).2.1
  have a3 := a3.frm w2 fun y hy => (p3 y hy).2.2.1
  have a4 := a4.frm w2 fun y hy => (p4 y hy).2.2.1
  refine ⟨_, rfl, _, _, _, r.at rfl, (markBoolSS_ok a3 n3 (by omega) (by omega)).mono ?_⟩
  rintro v g3 ⟨rfl, a3, w3⟩
  have r := r.frm w3 (out _ fun y hy => by simp [hy])
  have a0 := a0.frm w3 fun y hy => (p0 y hy).2.2.1
  have a1 := a1.frm w3 fun y hy => (p1 y hy).2.2.1
  have a2 := a2.frm w3 fun y hy => (p2 y hy).2.2.1
  have a4 := a4.frm w3 fun y hy => (p4 y hy).2.2.2
  refine ⟨_, rfl, _, _, _, r.at rfl, (markIntSS_ok a4 n4 (by omega) (by omega)).mono ?_⟩
  rintro v g4 ⟨rfl, a4, w4⟩
  have a0 := a0.frm w4 fun y hy => (p0 y hy).2.2.2
  have a1 := a1.frm w4 fun y hy => (p1 y hy).2.2.2
  have a2 := a2.frm w4 fun y hy => (p2 y hy).2.2.2
  have a3 := a3.frm w4 fun y hy => (p3 y hy).2.2.2
  refine ⟨_, rfl, by congr 1; omega, ⟨a0, a1, a2, a3, a4⟩, ?_⟩
  refine (((((f7.frm).trans (w0.mono fun y _ hy => ?_)).trans (w1.mono fun y _ hy => ?_)).trans (w2.mono fun y _ hy => ?_)).trans (w3.mono fun y _ hy => ?_)).trans (w4.mono fun y _ hy => ?_) <;> simp [hy]

theorem heldBank_ok {x : BankD} {d : BankH} {F0 F1 F2 F3 F4 : List Nat} {k : Int} (hx : BankAt h (mkBank k x) d F0 F1 F2 F3 F4) (hk : 0 ≤ k) (hm : k + x.size < 4611686018427387904) :
    CallsH PP fn_laws_heldBank [.agg ⟨d.cells⟩, .int .i64 k] h fun v h' => v = .int .i64 (k + x.size) ∧ Ext h h' := by
  refine calls_laws_heldBank _ _ _ _ _ _ _ _ _ _ _ _ _ _ _ _ ?_
  unfold M_laws_heldBank
  have hn0 := hx.s0.1
  have hn2 := hx.s2.1
  simp only [mkBank, mkI_length] at hn0 hn2
  unfold BankD.size at *
  intro h7 e7
  obtain ⟨r, f7, s7⟩ := newStep e7
  have hx := hx.ext f7
  obtain ⟨a0, a1, a2, a3, a4⟩ := hx
  refine ⟨_, _, _, r.at rfl, (heldIntS_ok a0 hk (by omega)).mono ?_⟩
  rintro v g0 ⟨rfl, rfl⟩
  rw [hn0]
  refine ⟨_, rfl, fun hh => by simp at hh; omega, fun _ => ?_⟩
  refine ⟨_, _, _, r.at rfl, (heldIntSS_ok a1 (by omega) (by omega)).mono ?_⟩
  rintro v g0 ⟨rfl, rfl⟩
  refine ⟨_, rfl, fun hh => by simp at hh; omega, fun _ => ?_⟩
  refine ⟨_, _, _, r.at rfl, (heldIntS_ok a2 (by omega) (by omega)).mono ?_⟩
  rintro v g0 ⟨rfl, rfl⟩
  rw [hn2]
  refine ⟨_, rfl, fun hh => by simp at hh; omega, fun _ => ?_⟩
  refine ⟨_, _, _, r.at rfl, (heldBoolSS_ok a3 (by omega) (by omega)).mono ?_⟩
  rintro v g0 ⟨rfl, rfl⟩
  refine ⟨_, rfl, fun hh => by simp at hh; omega, fun _ => ?_⟩
  refine ⟨_, _, _, r.at rfl, (heldIntSS_ok a4 (by omega) (by omega)).mono ?_⟩
  rintro v g0 ⟨rfl, rfl⟩
  refine ⟨_, rfl, fun hh => by simp at hh; omega, fun _ => ?_⟩
  exact ⟨by congr 1; omega, f7⟩
end
end Go.Proofs.Ytjmhahjmbmiepaa.D
