/- Middles of two numbers; whole elements written. -/
import Derived.Test.YtjmhahjmbmiepaaSepH
import Derived.Test.YtjmhahjmbmiepaaBnkA
import Derived.Test.YtjmhahjmbmiepaaKdB
namespace Go.Proofs.Ytjmhahjmbmiepaa.D
open Go
set_option linter.unusedVariables false
set_option linter.unusedSimpArgs false

theorem wrapU {n : Int} (h0 : 0 ≤ n) (h1 : n < 18446744073709551616) : IntKind.u64.wrap n = n := by
  unfold IntKind.wrap
  simp only [IntKind.bits, IntKind.signed]
  have : n % 18446744073709551616 = n := Int.emod_eq_of_lt h0 h1
  simp [this]
theorem midI {i j : Nat} (h : i + j < 4611686018427387904) : IntKind.i64.wrap (Int.fdiv (IntKind.u64.wrap (IntKind.i64.wrap ((i : Int) + (j : Int)))) (2 ^ min 1 (IntKind.bits .u64))) = (((i + j) / 2 : Nat) : Int) := by
  have e1 : IntKind.i64.wrap ((i : Int) + (j : Int)) = ((i + j : Nat) : Int) := by rw [wrap64_of (by omega) (by omega)]; omega
  rw [e1, wrapU (by omega) (by omega)]
  have e2 : (2 : Int) ^ min 1 (IntKind.bits .u64) = 2 := by decide
  rw [e2, Int.fdiv_eq_ediv_of_nonneg _ (by omega)]
  rw [wrap64_of (by omega) (by omega)]
  omega
/-- A loop that counts up and carries a slice. -/
def UpSl (n : Nat) (J : Nat → Option Addr → Nat → Nat → Heap → Prop) : List Value → Heap → Prop := fun vs g => ∃ (i : Nat) (a : Option Addr) (m c : Nat), i ≤ n ∧ vs = [.slice a m c, .int .i64 (i : Int)] ∧ J i a m c g
theorem UpSl.start {n : Nat} {J : Nat → Option Addr → Nat → Nat → Heap → Prop} {h : Heap} {a : Option Addr} {m c : Nat} (j : J 0 a m c h) : UpSl n J [.slice a m c, .int .i64 0] h := ⟨0, a, m, c, by omega, rfl, j⟩
theorem UpSl.elim {n : Nat} {J : Nat → Option Addr → Nat → Nat → Heap → Prop} {h : Heap} {a : Option Addr} {m c : Nat} {x : Int} (u : UpSl n J [.slice a m c, .int .i64 x] h) : ∃ i : Nat, i ≤ n ∧ x = i ∧ J i a m c h := by
  obtain ⟨i, a', m', c', hi, hv, j⟩ := u
  simp at hv
  obtain ⟨⟨rfl, rfl, rfl⟩, rfl⟩ := hv
  exact ⟨i, hi, rfl, j⟩
theorem UpSl.next {n : Nat} {J : Nat → Option Addr → Nat → Nat → Heap → Prop} {g g' : Heap} {i : Nat} {a a' : Option Addr} {m c m' c' : Nat} (hn : n < 281474976710656) (hi : i < n) (j : J (i + 1) a' m' c' g) :
    UpSl n J [.slice a' m' c', .int .i64 (IntKind.i64.wrap ((i : Int) + 1))] g ∧ UpKM n [.slice a' m' c', .int .i64 (IntKind.i64.wrap ((i : Int) + 1))] g < UpKM n [.slice a m c, .int .i64 (i : Int)] g' := by
  rw [wrap_succ (by omega)]
  refine ⟨⟨i + 1, a', m', c', by omega, rfl, j⟩, ?_⟩
  simp [UpKM, ivOf]; omega

section
variable {h : Heap} {L : List Asn}
/-- A whole element of a flat kind is written, at a slice whose place is known. -/
theorem Own.setFlat {α : Type} {k : Kind α} {xs : List α} {R : List Asn} {b o n c i sz : Nat} {news : List Value} {y : α} {G : Heap → Prop} (H : Own h L) [j : SlAny (some ⟨b, o, none⟩) n L c α k xs R] (hf : k.Flat) (hi : i < n) (hr : ∀ h, k.rep h y news [])
    (hk : ∀ g, Own g (slA k (xs.set i y) (some ⟨b, o, none⟩) n c :: R) → G g) (hs : k.size = sz := by rfl) :
    ∃ (e : TypeId) (c : List Value), Row h b e c ∧ o + i * sz + sz ≤ c.length ∧ ∀ g, g = putRow h b e (splice c (o + i * sz) news) → G g := by
  subst hs
  have H := H.perm j.perm
  have hl := (H.len m0).1
  obtain ⟨F, nd, s, w⟩ := H.slTurn
  obtain ⟨b', o', row, ci, Fi, ha, hb, r, hlen, hci, hsub, st⟩ := s.setElem nd (i := i) (by omega)
  injection ha with ha
  injection ha with e1 e2 _
  subst e1 e2
  have hFi := hf hci
  subst hFi
  refine ⟨k.tid, row, r, hlen, fun g hg => hk g ?_⟩
  subst hg
  exact w _ _ _ _ _ _ F (Frm.put h _ _ hb) (st news y (hr _)) nd fun x hx => .inl hx

/-- The same, of one cell. -/
theorem Own.setOne {α : Type} {k : Kind α} {xs : List α} {R : List Asn} {b o n c i : Nat} {v : Value} {y : α} {G : Heap → Prop} (H : Own h L) [j : SlAny (some ⟨b, o, none⟩) n L c α k xs R] (hf : k.Flat) (hi : i < n) (hr : ∀ h, k.rep h y [v] [])
    (hk : ∀ g, Own g (slA k (xs.set i y) (some ⟨b, o, none⟩) n c :: R) → G g) (hs : k.size = 1 := by rfl) :
    ∃ (e : TypeId) (c : List Value), Row h b e c ∧ o + i < c.length ∧ ∀ g, g = putRow h b e (c.set (o + i) v) → G g := by
  obtain ⟨e, cs, r, hl, w⟩ := H.setFlat (i := i) (sz := 1) (y := y) (news := [v]) hf hi hr hk hs
  refine ⟨e, cs, r, by omega, fun g hg => w g ?_⟩
  rw [hg, set_eq_splice (by omega), Nat.mul_one]
theorem fillSet {α : Type} {xs : List α} {n i : Nat} (d : α) (hn : n = xs.length) (hi : i < n) : (xs.take i ++ List.replicate (n - i) d).set i (xs.getD i d) = xs.take (i + 1) ++ List.replicate (n - (i + 1)) d := by
  rw [List.set_append_right _ _ (by simp; omega), ← takeSnoc d (by omega), List.append_assoc]
  congr 1
  rw [show i - (xs.take i).length = 0 from by simp; omega, show n - i = (n - (i + 1)) + 1 by omega, List.replicate_succ, List.set_cons_zero]
  rfl
end
end Go.Proofs.Ytjmhahjmbmiepaa.D
