/- Contracts: copies, repeats, a new bank. -/
import Derived.Test.YtjmhahjmbmiepaaBkE
namespace Go.Proofs.Ytjmhahjmbmiepaa.D
open Go
set_option linter.unusedVariables false
set_option linter.unusedSimpArgs false

section
variable {h : Heap} {L : List Asn}

theorem Clone_ok {xs : List Int} {a : Option Addr} {n c : Nat} (hn : n ≤ 1048576) (H : Own h (slA kI xs a n c :: L)) :
    CallsH PP fn_slices_Clone_int [.slice a n c] h fun v h' => ∃ a' c', v = .slice a' n c' ∧ Own h' (slA kI xs a' n c' :: slA kI xs a n c :: L) := by
  refine calls_slices_Clone_int _ _ _ ?_
  unfold M_slices_Clone_int
  refine ⟨fun ha => ?_, fun ha => ?_⟩
  · obtain ⟨F, hl, hc, hs⟩ := H.sl m0
    rcases hs with ⟨rfl, rfl, rfl⟩ | ⟨b, pre, cs, post, G, rfl, _⟩
    · have h0 : n = 0 := by omega
      subst h0
      have hx : xs = [] := List.eq_nil_of_length_eq_zero hl.symm
      subst hx
      exact ⟨none, 0, rfl, H.slNil kI⟩
    · cases ha
  · intro h2 e2
    have H := (H.made0 kI).at e2
    refine H.appendSl (flatI _) m0 (by omega) rfl fun a' c' h3 H => ?_
    rw [Nat.zero_add, List.nil_append] at *
    exact ⟨a', c', rfl, H⟩

theorem Mul64_ok {n : Nat} (hn : n ≤ 5) : CallsH PP fn_math_bits_Mul64 [.int .u64 1, .int .u64 n] h fun v h' => v = .tuple ⟨[.int .u64 0, .int .u64 n]⟩ ∧ h' = h := by
  refine calls_math_bits_Mul64 _ _ ?_
  unfold M_math_bits_Mul64
  refine ⟨by decide, by decide, by decide, by decide, by decide, ?_, rfl⟩
  have : n = 0 ∨ n = 1 ∨ n = 2 ∨ n = 3 ∨ n = 4 ∨ n = 5 := by omega
  rcases this with rfl | rfl | rfl | rfl | rfl | rfl <;> rfl
theorem Mul_ok {n : Nat} (hn : n ≤ 5) : CallsH PP fn_math_bits_Mul [.int .u64 1, .int .u64 n] h fun v h' => v = .tuple ⟨[.int .u64 0, .int .u64 n]⟩ ∧ h' = h := by
  refine calls_math_bits_Mul _ _ ?_
  unfold M_math_bits_Mul
  refine (Mul64_ok hn).mono ?_
  rintro v h' ⟨rfl, rfl⟩
  exact ⟨_, _, rfl, rfl, rfl⟩
theorem splice_rep {m n j : Nat} {v z : Value} (hm : m ≤ n) (hj : j ≤ n - m) : splice (List.replicate m v ++ List.replicate (n - m) z) m (List.replicate j v) = List.replicate (m + j) v ++ List.replicate (n - (m + j)) z := by
  unfold splice
  have h1 : (List.replicate m v ++ List.replicate (n - m) z).take m = List.replicate m v := by simp
  have h2 : (List.replicate m v ++ List.replicate (n - m) z).drop (m + (List.replicate j v).length) = List.replicate (n - (m + j)) z := by
    simp [List.drop_append]; omega
  rw [h1, h2, ← List.replicate_append_replicate]
theorem els_int {t : TypeId} {n : Nat} {x : Int} (hx : inI64 x) : ∀ {g : Heap}, Els (kInt t) g (List.replicate n x) (List.replicate n (.int .i64 x)) [] := by
  intro g
  induction n with
  | zero => exact ⟨rfl, rfl⟩
  | succ n ih => exact ⟨[.int .i64 x], List.replicate n (.int .i64 x), [], [], rfl, rfl, ⟨rfl, rfl, hx⟩, ih⟩

theorem Repeat_ok {n b : Nat} {e : TypeId} (hp : 1 ≤ n) (hn : n ≤ 5) (H : Own h (rowA b e [.int .i64 (-1)] :: L)) :
    CallsH PP fn_slices_Repeat_int [.slice (some ⟨b, 0, none⟩) 1 1, .int .i64 n] h fun v h' => ∃ a', v = .slice a' n n ∧ Own h' (slA kI (List.replicate n (-1)) a' n n :: L) := by
  refine calls_slices_Repeat_int _ _ _ _ ?_
  unfold M_slices_Repeat_int
  refine ⟨fun hh => by simp at hh; omega, fun _ => ?_⟩
  have w1 : IntKind.u64.wrap ((1 : Nat) : Int) = 1 := by decide
  have w2 : IntKind.u64.wrap (n : Int) = n := by
    have : n = 0 ∨ n = 1 ∨ n = 2 ∨ n = 3 ∨ n = 4 ∨ n = 5 := by omega
    rcases this with rfl | rfl | rfl | rfl | rfl | rfl <;> decide
  rw [w1, w2]
  refine (Mul_ok hn).mono ?_
  rintro v h3 ⟨rfl, rfl⟩
  refine ⟨_, _, rfl, fun _ => ⟨fun hh => by simp at hh; omega, fun _ => ?_⟩, fun hh => by simp at hh⟩
  have w3 : IntKind.i64.wrap (n : Int) = n := wrap64_of (by omega) (by omega)
  rw [w3]
  refine ⟨by omega, by omega, by omega, by omega, ?_⟩
  intro h6 e6
  have H := H.newE e6
  have e0 : repl [.int .i64 0] n = List.replicate n (.int .i64 0) := rfl
  rw [show (n : Int).toNat = n from rfl, e0] at H
  show copyH h6 1 (some ⟨h3.size, 0, none⟩) n (some ⟨b, 0, none⟩) 1 _
  refine ⟨(fun h => by cases h), [.int .i64 (-1)], ?_, by simp [oneV], rfl, ?_⟩
  · have := cells_mid (pre := []) (post := []) (cs := [.int .i64 (-1)]) (by simpa using H.row m1)
    rw [Nat.min_eq_left hp]
    exact this
  refine H.wr (by simp; omega) fun h7 H => ?_
  rw [Nat.min_eq_left hp]
  have e1 : splice (List.replicate n (Value.int .i64 0)) 0 [.int .i64 (-1)] = List.replicate 1 (.int .i64 (-1)) ++ List.replicate (n - 1) (.int .i64 0) := splice_rep (m := 0) (j := 1) (by omega) (by omega)
  rw [show (0 : Nat) = ({ block := h3.size, off := 0, spot := none } : Addr).off from rfl] at e1
  rw [e1] at H
  have H := H.p1.drop
  refine ⟨fun vs g => ∃ m : Nat, 1 ≤ m ∧ m ≤ n ∧ vs = [.int .i64 (m : Int)] ∧ Own g (rowA h3.size ty_int (List.replicate m (.int .i64 (-1)) ++ List.replicate (n - m) (.int .i64 0)) :: L), fun vs _ => n - (ivOf vs 0).toNat, ⟨1, by omega, by omega, rfl, H⟩, ?_⟩
  rintro g x ⟨m, h1, h2, hv, H⟩
  simp at hv
  subst hv
  refine ⟨fun hlt => ?_, fun hge => ?_⟩
  · have hlt : m < n := lt_of_dec hlt
    refine ⟨by omega, by simp; omega, by simp, by omega, by omega, by simp; omega, ?_⟩
    have ha : subA (some (⟨h3.size, 0, none⟩ : Addr)) n m 1 = some ⟨h3.size, m, none⟩ := by
      unfold subA
      rw [if_neg (by omega), mulS_eq, Nat.mul_one, Option.map_some]
      unfold Addr.add
      split
      · congr 2; omega
      · simp
    show copyH g 1 (subA (some (⟨h3.size, 0, none⟩ : Addr)) n m 1) (n - m) (some ⟨h3.size, 0, none⟩) m _
    rw [ha]
    have hj : min m (n - m) ≤ m := Nat.min_le_left _ _
    have hj2 : min m (n - m) ≤ n - m := Nat.min_le_right _ _
    have hj3 : 1 ≤ min m (n - m) := by rw [Nat.le_min]; omega
    unfold copyH
    generalize min m (n - m) = j at hj hj2 hj3 ⊢
    refine ⟨(fun h => by cases h), List.replicate j (.int .i64 (-1)), ?_, ?_, rfl, ?_⟩
    · have hsp : List.replicate m (Value.int .i64 (-1)) ++ List.replicate (n - m) (Value.int .i64 0) = [] ++ List.replicate j (Value.int .i64 (-1)) ++ (List.replicate (m - j) (Value.int .i64 (-1)) ++ List.replicate (n - m) (Value.int .i64 0)) := by
        rw [List.nil_append, ← List.append_assoc, List.replicate_append_replicate, show j + (m - j) = m by omega]
      have r := H.row m0
      rw [hsp] at r
      have := cells_mid r
      simpa using this
    · intro v hv
      rw [List.eq_of_mem_replicate hv]; rfl
    refine H.wr (by simp; omega) fun h8 H => ?_
    rw [splice_rep (by omega) hj2] at H
    have w5 : IntKind.i64.wrap ((m : Int) + (j : Int)) = ((m + j : Nat) : Int) := by rw [wrap64_of (by omega) (by omega)]; omega
    dsimp only
    rw [w5]
    refine ⟨⟨m + j, by omega, by omega, rfl, H⟩, ?_⟩
    simp [ivOf]
    omega
  · have hge : n ≤ m := ge_of_dec hge
    have : m = n := by omega
    subst this
    rw [Nat.sub_self, List.replicate_zero, List.append_nil] at H
    have := H.ofRow (k := kI) (xs := List.replicate m (-1)) (els_int (x := -1) (by simp [inI64])) (by simp; omega)
    rw [List.length_replicate] at this
    exact ⟨_, rfl, this⟩

def newD (n : Nat) (xs : List Int) : BankD := ⟨xs, List.replicate (n * n) [], List.replicate n (-1), List.replicate n (List.replicate n false), List.replicate n (List.replicate n 0)⟩
theorem wrapSq {n : Nat} (h : n ≤ 5) : IntKind.i64.wrap ((n : Int) * (n : Int)) = ((n * n : Nat) : Int) := by
  have hnn := mul_le5 h
  have e : (n : Int) * (n : Int) = ((n * n : Nat) : Int) := by simp
  rw [e, wrap64_of (by omega) (by omega)]
theorem repI (h : Heap) : (kInt ty_int).rep h 0 [.int .i64 0] [] := ⟨rfl, rfl, by simp [inI64]⟩
theorem repB (h : Heap) : (kBool ty_bool).rep h false [.bool false] [] := ⟨rfl, rfl⟩
theorem repN {α : Type} (t : TypeId) (k : Kind α) (h : Heap) : (kSl t k).rep h [] [.slice none 0 0] [] := ⟨none, 0, 0, rfl, Sl.nil k h⟩

theorem newBank_ok {xs : List Int} {a : Option Addr} {n c : Nat} (hp : 1 ≤ n) (hn : n ≤ 5) (H : Own h (slA kI xs a n c :: L)) :
    CallsH PP fn_impl_newBank [.slice a n c] h fun v h' => ∃ d : BankH, v = .agg ⟨d.cells⟩ ∧ Own h' (bankL (newD n xs) d (slA kI xs a n c :: L)) := by
  refine calls_impl_newBank _ _ _ ?_
  unfold M_impl_newBank
  have hnn := mul_le5 hn
  intro h2 e2
  have H := H.newE e2
  intro K hK
  have fin : ∀ (g : Heap) (b : Nat) (d0 d1 d2 : Hd), d0.n = n → Own g (rowA b ty_impl_Bank [d0.v, d1.v, d2.v, .slice none 0 0, .slice none 0 0] :: slA kI xs d0.a d0.n d0.c :: slA kIS (List.replicate (n * n) []) d1.a d1.n d1.c :: slA kI (List.replicate n (-1)) d2.a d2.n d2.c :: rowA h.size ty_impl_Bank [.slice none 0 0, .slice none 0 0, .slice none 0 0, .slice none 0 0, .slice none 0 0] :: slA kI xs a n c :: L) → K [.pointer (some ⟨b, 0, none⟩)] g := by
    intro g b d0 d1 d2 hd0 H
    refine hK g b 0 ?_
    refine ⟨UpI n fun i g => ∃ d3 d4 : Hd, Own g (rowA b ty_impl_Bank [d0.v, d1.v, d2.v, d3.v, d4.v] :: slA kBS (List.replicate i (List.replicate n false)) d3.a d3.n d3.c :: slA kIS (List.replicate i (List.replicate n 0)) d4.a d4.n d4.c ::
      slA kI xs d0.a d0.n d0.c :: slA kIS (List.replicate (n * n) []) d1.a d1.n d1.c :: slA kI (List.replicate n (-1)) d2.a d2.n d2.c :: rowA h.size ty_impl_Bank [.slice none 0 0, .slice none 0 0, .slice none 0 0, .slice none 0 0, .slice none 0 0] :: slA kI xs a n c :: L), UpM n, UpI.start ⟨Hd.nil, Hd.nil, ((H.slNil kIS).slNil kBS).p2⟩, ?_⟩
    intro g' x hI
    obtain ⟨i, hi, rfl, d3, d4, H⟩ := hI.elim
    have l3 := (H.len m1).1
    have l4 := (H.len m2).1
    rw [List.length_replicate] at l3 l4
    refine ⟨fun hlt => ?_, fun hge => ?_⟩
    · have hlt := lt_of_dec hlt
      refine ⟨_, _, _, H.cell m0 rfl, _, _, _, H.cell m0 rfl, ?_⟩
      refine ⟨?_, ?_⟩
      · refine ⟨by omega, by omega, by omega, by omega, ?_⟩
        intro g2 e1
        have H := (H.made kB false (fun g => repB g) (m := n) (by omega)).at e1
        (repeat (refine ⟨by first | exact H.cell m1 rfl, ?_⟩))
        refine ⟨?_, ?_⟩
        · intro g4 e3
          have H := H.newE e3
          (repeat (refine ⟨by first | exact H.cell m2 rfl, ?_⟩))
          refine ⟨?_, ?_⟩
          · refine (H.p1.p3).appendIn m0 (by omega) rfl fun a5 c6 g7 H => ?_
            (repeat (refine ⟨by first | exact H.cell m2 rfl, ?_⟩))
            refine ⟨by omega, by omega, by omega, by omega, ?_⟩
            intro g9 e8
            have H := (H.made kI 0 (fun g => repI g) (m := n) (by omega)).at e8
            (repeat (refine ⟨by first | exact H.cell m3 rfl, ?_⟩))
            intro g11 e10
            have H := H.newE e10
            (repeat (refine ⟨by first | exact H.cell m4 rfl, ?_⟩))
            refine (H.p1.p5).appendIn m0 (by omega) rfl fun a12 c13 g14 H => ?_
            (repeat (refine ⟨by first | exact H.cell m4 rfl, ?_⟩))
            refine ⟨_, _, H.row m4, by simp, ?_⟩
            intro g17 e15
            have H := (H.p4).putE e15
            refine ⟨_, _, H.row m0, by simp, ?_⟩
            intro g18 e16
            have H := H.putE e16
            refine UpI.next (by omega) hlt ⟨⟨a5, d3.n + 1, c6⟩, ⟨a12, d4.n + 1, c13⟩, ?_⟩
            rw [List.replicate_succ', List.replicate_succ']
            exact (H.p9.p9.p9.p9.p9.p6.p8.p7).r8.r8
          · refine ⟨by omega, by omega, by omega, by omega, ?_⟩
            intro g20 e19
            have H := (H.made kI 0 (fun g => repI g) (m := n) (by omega)).at e19
            (repeat (refine ⟨by first | exact H.cell m3 rfl, ?_⟩))
            refine ⟨?_, ?_⟩
            · refine (H.p2.p4).appendIn m1 (by omega) rfl fun a21 c22 g23 H => ?_
              (repeat (refine ⟨by first | exact H.cell m3 rfl, ?_⟩))
              intro g25 e24
              have H := H.newE e24
              (repeat (refine ⟨by first | exact H.cell m4 rfl, ?_⟩))
              refine (H.p2.p5).appendIn m0 (by omega) rfl fun a26 c27 g28 H => ?_
              (repeat (refine ⟨by first | exact H.cell m4 rfl, ?_⟩))
              refine ⟨_, _, H.row m4, by simp, ?_⟩
              intro g31 e29
              have H := (H.p4).putE e29
              refine ⟨_, _, H.row m0, by simp, ?_⟩
              intro g32 e30
              have H := H.putE e30
              refine UpI.next (by omega) hlt ⟨⟨a21, d3.n + 1, c22⟩, ⟨a26, d4.n + 1, c27⟩, ?_⟩
              rw [List.replicate_succ', List.replicate_succ']
              exact (H.p9.p9.p9.p9.p9.p6.p8.p7).r8.r8
            · intro g34 e33
              have H := H.newE e33
              (repeat (refine ⟨by first | exact H.cell m4 rfl, ?_⟩))
              refine (H.p3.p5).appendIn m2 (by omega) rfl fun a35 c36 g37 H => ?_
              (repeat (refine ⟨by first | exact H.cell m4 rfl, ?_⟩))
              refine (H.p2.p5).appendIn m1 (by omega) rfl fun a38 c39 g40 H => ?_
              (repeat (refine ⟨by first | exact H.cell m4 rfl, ?_⟩))
              refine ⟨_, _, H.row m4, by simp, ?_⟩
              intro g43 e41
              have H := (H.p4).putE e41
              refine ⟨_, _, H.row m0, by simp, ?_⟩
              intro g44 e42
              have H := H.putE e42
              refine UpI.next (by omega) hlt ⟨⟨a35, d3.n + 1, c36⟩, ⟨a38, d4.n + 1, c39⟩, ?_⟩
              rw [List.replicate_succ', List.replicate_succ']
              exact (H.p9.p9.p9.p9.p9.p6.p7.p7).r8.r8
        · refine ⟨by omega, by omega, by omega, by omega, ?_⟩
          intro g46 e45
          have H := (H.made kI 0 (fun g => repI g) (m := n) (by omega)).at e45
          (repeat (refine ⟨by first | exact H.cell m2 rfl, ?_⟩))
          refine ⟨?_, ?_⟩
          · intro g48 e47
            have H := H.newE e47
            (repeat (refine ⟨by first | exact H.cell m3 rfl, ?_⟩))
            refine ⟨?_, ?_⟩
            · refine (H.p2.p4).appendIn m0 (by omega) rfl fun a49 c50 g51 H => ?_
              (repeat (refine ⟨by first | exact H.cell m3 rfl, ?_⟩))
              intro g53 e52
              have H := H.newE e52
              (repeat (refine ⟨by first | exact H.cell m4 rfl, ?_⟩))
              refine (H.p3.p5).appendIn m0 (by omega) rfl fun a54 c55 g56 H => ?_
              (repeat (refine ⟨by first | exact H.cell m4 rfl, ?_⟩))
              refine ⟨_, _, H.row m4, by simp, ?_⟩
              intro g59 e57
              have H := (H.p4).putE e57
              refine ⟨_, _, H.row m0, by simp, ?_⟩
              intro g60 e58
              have H := H.putE e58
              refine UpI.next (by omega) hlt ⟨⟨a49, d3.n + 1, c50⟩, ⟨a54, d4.n + 1, c55⟩, ?_⟩
              rw [List.replicate_succ', List.replicate_succ']
              exact (H.p9.p9.p9.p9.p9.p6.p8.p7).r8.r8
            · intro g62 e61
              have H := H.newE e61
              (repeat (refine ⟨by first | exact H.cell m4 rfl, ?_⟩))
              refine (H.p3.p5).appendIn m1 (by omega) rfl fun a63 c64 g65 H => ?_
              (repeat (refine ⟨by first | exact H.cell m4 rfl, ?_⟩))
              refine (H.p3.p5).appendIn m1 (by omega) rfl fun a66 c67 g68 H => ?_
              (repeat (refine ⟨by first | exact H.cell m4 rfl, ?_⟩))
              refine ⟨_, _, H.row m4, by simp, ?_⟩
              intro g71 e69
              have H := (H.p4).putE e69
              refine ⟨_, _, H.row m0, by simp, ?_⟩
              intro g72 e70
              have H := H.putE e70
              refine UpI.next (by omega) hlt ⟨⟨a63, d3.n + 1, c64⟩, ⟨a66, d4.n + 1, c67⟩, ?_⟩
              rw [List.replicate_succ', List.replicate_succ']
              exact (H.p9.p9.p9.p9.p9.p6.p7.p7).r8.r8
          · intro g74 e73
            have H := H.newE e73
            (repeat (refine ⟨by first | exact H.cell m3 rfl, ?_⟩))
            intro g76 e75
            have H := H.newE e75
            (repeat (refine ⟨by first | exact H.cell m4 rfl, ?_⟩))
            refine (H.p3.p5).appendIn m0 (by omega) rfl fun a77 c78 g79 H => ?_
            (repeat (refine ⟨by first | exact H.cell m4 rfl, ?_⟩))
            refine (H.p3.p5).appendIn m2 (by omega) rfl fun a80 c81 g82 H => ?_
            (repeat (refine ⟨by first | exact H.cell m4 rfl, ?_⟩))
            refine ⟨_, _, H.row m4, by simp, ?_⟩
            intro g85 e83
            have H := (H.p4).putE e83
            refine ⟨_, _, H.row m0, by simp, ?_⟩
            intro g86 e84
            have H := H.putE e84
            refine UpI.next (by omega) hlt ⟨⟨a77, d3.n + 1, c78⟩, ⟨a80, d4.n + 1, c81⟩, ?_⟩
            rw [List.replicate_succ', List.replicate_succ']
            exact (H.p9.p9.p9.p9.p9.p6.p7.p7).r8.r8
      · refine ⟨by omega, by omega, by omega, by omega, ?_⟩
        intro g88 e87
        have H := (H.made kI 0 (fun g => repI g) (m := n) (by omega)).at e87
        (repeat (refine ⟨by first | exact H.cell m1 rfl, ?_⟩))
        refine ⟨?_, ?_⟩
        · refine ⟨by omega, by omega, by omega, by omega, ?_⟩
          intro g90 e89
          have H := (H.made kB false (fun g => repB g) (m := n) (by omega)).at e89
          (repeat (refine ⟨by first | exact H.cell m2 rfl, ?_⟩))
          refine ⟨?_, ?_⟩
          · intro g92 e91
            have H := H.newE e91
            (repeat (refine ⟨by first | exact H.cell m3 rfl, ?_⟩))
            refine ⟨?_, ?_⟩
            · refine (H.p1.p4).appendIn m0 (by omega) rfl fun a93 c94 g95 H => ?_
              (repeat (refine ⟨by first | exact H.cell m3 rfl, ?_⟩))
              intro g97 e96
              have H := H.newE e96
              (repeat (refine ⟨by first | exact H.cell m4 rfl, ?_⟩))
              refine (H.p3.p5).appendIn m0 (by omega) rfl fun a98 c99 g100 H => ?_
              (repeat (refine ⟨by first | exact H.cell m4 rfl, ?_⟩))
              refine ⟨_, _, H.row m4, by simp, ?_⟩
              intro g103 e101
              have H := (H.p4).putE e101
              refine ⟨_, _, H.row m0, by simp, ?_⟩
              intro g104 e102
              have H := H.putE e102
              refine UpI.next (by omega) hlt ⟨⟨a93, d3.n + 1, c94⟩, ⟨a98, d4.n + 1, c99⟩, ?_⟩
              rw [List.replicate_succ', List.replicate_succ']
              exact (H.p9.p9.p9.p9.p9.p6.p8.p7).r8.r8
            · intro g106 e105
              have H := H.newE e105
              (repeat (refine ⟨by first | exact H.cell m4 rfl, ?_⟩))
              refine (H.p2.p5).appendIn m1 (by omega) rfl fun a107 c108 g109 H => ?_
              (repeat (refine ⟨by first | exact H.cell m4 rfl, ?_⟩))
              refine (H.p3.p5).appendIn m1 (by omega) rfl fun a110 c111 g112 H => ?_
              (repeat (refine ⟨by first | exact H.cell m4 rfl, ?_⟩))
              refine ⟨_, _, H.row m4, by simp, ?_⟩
              intro g115 e113
              have H := (H.p4).putE e113
              refine ⟨_, _, H.row m0, by simp, ?_⟩
              intro g116 e114
              have H := H.putE e114
              refine UpI.next (by omega) hlt ⟨⟨a107, d3.n + 1, c108⟩, ⟨a110, d4.n + 1, c111⟩, ?_⟩
              rw [List.replicate_succ', List.replicate_succ']
              exact (H.p9.p9.p9.p9.p9.p6.p7.p7).r8.r8
          · intro g118 e117
            have H := H.newE e117
            (repeat (refine ⟨by first | exact H.cell m3 rfl, ?_⟩))
            intro g120 e119
            have H := H.newE e119
            (repeat (refine ⟨by first | exact H.cell m4 rfl, ?_⟩))
            refine (H.p2.p5).appendIn m0 (by omega) rfl fun a121 c122 g123 H => ?_
            (repeat (refine ⟨by first | exact H.cell m4 rfl, ?_⟩))
            refine (H.p3.p5).appendIn m2 (by omega) rfl fun a124 c125 g126 H => ?_
            (repeat (refine ⟨by first | exact H.cell m4 rfl, ?_⟩))
            refine ⟨_, _, H.row m4, by simp, ?_⟩
            intro g129 e127
            have H := (H.p4).putE e127
            refine ⟨_, _, H.row m0, by simp, ?_⟩
            intro g130 e128
            have H := H.putE e128
            refine UpI.next (by omega) hlt ⟨⟨a121, d3.n + 1, c122⟩, ⟨a124, d4.n + 1, c125⟩, ?_⟩
            rw [List.replicate_succ', List.replicate_succ']
            exact (H.p9.p9.p9.p9.p9.p6.p7.p7).r8.r8
        · intro g132 e131
          have H := H.newE e131
          (repeat (refine ⟨by first | exact H.cell m2 rfl, ?_⟩))
          refine ⟨by omega, by omega, by omega, by omega, ?_⟩
          intro g134 e133
          have H := (H.made kB false (fun g => repB g) (m := n) (by omega)).at e133
          (repeat (refine ⟨by first | exact H.cell m3 rfl, ?_⟩))
          intro g136 e135
          have H := H.newE e135
          (repeat (refine ⟨by first | exact H.cell m4 rfl, ?_⟩))
          refine (H.p1.p5).appendIn m0 (by omega) rfl fun a137 c138 g139 H => ?_
          (repeat (refine ⟨by first | exact H.cell m4 rfl, ?_⟩))
          refine (H.p3.p5).appendIn m2 (by omega) rfl fun a140 c141 g142 H => ?_
          (repeat (refine ⟨by first | exact H.cell m4 rfl, ?_⟩))
          refine ⟨_, _, H.row m4, by simp, ?_⟩
          intro g145 e143
          have H := (H.p4).putE e143
          refine ⟨_, _, H.row m0, by simp, ?_⟩
          intro g146 e144
          have H := H.putE e144
          refine UpI.next (by omega) hlt ⟨⟨a137, d3.n + 1, c138⟩, ⟨a140, d4.n + 1, c141⟩, ?_⟩
          rw [List.replicate_succ', List.replicate_succ']
          exact (H.p9.p9.p9.p9.p9.p6.p7.p7).r8.r8
    · have hge := ge_of_dec hge
      have : i = n := by omega
      subst this
      refine ⟨_, _, _, H.cell m0 rfl, _, _, _, H.cell m0 rfl, _, _, _, H.cell m0 rfl, _, _, _, H.cell m0 rfl, _, _, _, H.cell m0 rfl, _, _, H.row m6, by simp, ?_⟩
      intro g1 e1
      have H := H.p6.putE e1
      refine ⟨_, _, _, H.cell m0 rfl, _, _, _, H.cell m0 rfl, _, _, _, H.cell m0 rfl, _, _, _, H.cell m0 rfl, _, _, _, H.cell m0 rfl, ⟨d0, d1, d2, d3, d4⟩, rfl, ?_⟩
      exact H.drop.drop.p4.p4.p4
  rw [wrapSq hn]
  refine ⟨?_, ?_⟩
  · refine (Clone_ok (by omega) (H.p1)).mono ?_
    rintro v g149 ⟨a147, c148, rfl, H⟩
    refine ⟨_, _, _, rfl, ?_⟩
    refine ⟨?_, ?_⟩
    · refine ⟨by omega, by omega, by omega, by omega, ?_⟩
      intro g151 e150
      have H := (H.made kIS [] (fun g => repN _ _ g) (m := n * n) (by omega)).at e150
      refine ⟨?_, ?_⟩
      · intro g153 e152
        have H := H.newE e152
        refine ⟨?_, ?_⟩
        · refine (Repeat_ok hp hn (H)).mono ?_
          rintro v g155 ⟨a154, rfl, H⟩
          refine ⟨_, _, _, rfl, ?_⟩
          intro g157 e156
          have H := H.newE e156
          refine ⟨_, _, H.row m0, by simp, ?_⟩
          intro g159 e158
          have H := (H).putE e158
          exact fin _ _ ⟨a147, n, c148⟩ ⟨_, _, _⟩ ⟨a154, n, n⟩ rfl (H.p4.p5.p3.p4.p5.p5)
        · intro g161 e160
          have H := H.newE e160
          refine (Repeat_ok hp hn (H.p1)).mono ?_
          rintro v g163 ⟨a162, rfl, H⟩
          refine ⟨_, _, _, rfl, ?_⟩
          refine ⟨_, _, H.row m1, by simp, ?_⟩
          intro g165 e164
          have H := (H.p1).putE e164
          exact fin _ _ ⟨a147, n, c148⟩ ⟨_, _, _⟩ ⟨a162, n, n⟩ rfl (H.p4.p5.p3.p4.p5.p5)
      · intro g167 e166
        have H := H.newE e166
        intro g169 e168
        have H := H.newE e168
        refine (Repeat_ok hp hn (H)).mono ?_
        rintro v g171 ⟨a170, rfl, H⟩
        refine ⟨_, _, _, rfl, ?_⟩
        refine ⟨_, _, H.row m1, by simp, ?_⟩
        intro g173 e172
        have H := (H.p1).putE e172
        exact fin _ _ ⟨a147, n, c148⟩ ⟨_, _, _⟩ ⟨a170, n, n⟩ rfl (H.p4.p5.p3.p4.p5.p5)
    · refine ⟨?_, ?_⟩
      · intro g175 e174
        have H := H.newE e174
        refine ⟨?_, ?_⟩
        · refine ⟨by omega, by omega, by omega, by omega, ?_⟩
          intro g177 e176
          have H := (H.made kIS [] (fun g => repN _ _ g) (m := n * n) (by omega)).at e176
          refine ⟨?_, ?_⟩
          · refine (Repeat_ok hp hn (H.p1)).mono ?_
            rintro v g179 ⟨a178, rfl, H⟩
            refine ⟨_, _, _, rfl, ?_⟩
            intro g181 e180
            have H := H.newE e180
            refine ⟨_, _, H.row m0, by simp, ?_⟩
            intro g183 e182
            have H := (H).putE e182
            exact fin _ _ ⟨a147, n, c148⟩ ⟨_, _, _⟩ ⟨a178, n, n⟩ rfl (H.p4.p5.p3.p4.p5.p5)
          · intro g185 e184
            have H := H.newE e184
            refine (Repeat_ok hp hn (H.p2)).mono ?_
            rintro v g187 ⟨a186, rfl, H⟩
            refine ⟨_, _, _, rfl, ?_⟩
            refine ⟨_, _, H.row m1, by simp, ?_⟩
            intro g189 e188
            have H := (H.p1).putE e188
            exact fin _ _ ⟨a147, n, c148⟩ ⟨_, _, _⟩ ⟨a186, n, n⟩ rfl (H.p4.p5.p3.p4.p5.p5)
        · refine ⟨?_, ?_⟩
          · refine (Repeat_ok hp hn (H)).mono ?_
            rintro v g191 ⟨a190, rfl, H⟩
            refine ⟨_, _, _, rfl, ?_⟩
            refine ⟨?_, ?_⟩
            · refine ⟨by omega, by omega, by omega, by omega, ?_⟩
              intro g193 e192
              have H := (H.made kIS [] (fun g => repN _ _ g) (m := n * n) (by omega)).at e192
              intro g195 e194
              have H := H.newE e194
              refine ⟨_, _, H.row m0, by simp, ?_⟩
              intro g197 e196
              have H := (H).putE e196
              exact fin _ _ ⟨a147, n, c148⟩ ⟨_, _, _⟩ ⟨a190, n, n⟩ rfl (H.p4.p5.p4.p4.p5.p5)
            · intro g199 e198
              have H := H.newE e198
              refine ⟨by omega, by omega, by omega, by omega, ?_⟩
              intro g201 e200
              have H := (H.made kIS [] (fun g => repN _ _ g) (m := n * n) (by omega)).at e200
              refine ⟨_, _, H.row m1, by simp, ?_⟩
              intro g203 e202
              have H := (H.p1).putE e202
              exact fin _ _ ⟨a147, n, c148⟩ ⟨_, _, _⟩ ⟨a190, n, n⟩ rfl (H.p4.p5.p4.p4.p5.p5)
          · intro g205 e204
            have H := H.newE e204
            refine ⟨?_, ?_⟩
            · refine ⟨by omega, by omega, by omega, by omega, ?_⟩
              intro g207 e206
              have H := (H.made kIS [] (fun g => repN _ _ g) (m := n * n) (by omega)).at e206
              refine (Repeat_ok hp hn (H.p2)).mono ?_
              rintro v g209 ⟨a208, rfl, H⟩
              refine ⟨_, _, _, rfl, ?_⟩
              refine ⟨_, _, H.row m2, by simp, ?_⟩
              intro g211 e210
              have H := (H.p2).putE e210
              exact fin _ _ ⟨a147, n, c148⟩ ⟨_, _, _⟩ ⟨a208, n, n⟩ rfl (H.p4.p5.p3.p4.p5.p5)
            · refine (Repeat_ok hp hn (H.p1)).mono ?_
              rintro v g213 ⟨a212, rfl, H⟩
              refine ⟨_, _, _, rfl, ?_⟩
              refine ⟨by omega, by omega, by omega, by omega, ?_⟩
              intro g215 e214
              have H := (H.made kIS [] (fun g => repN _ _ g) (m := n * n) (by omega)).at e214
              refine ⟨_, _, H.row m2, by simp, ?_⟩
              intro g217 e216
              have H := (H.p2).putE e216
              exact fin _ _ ⟨a147, n, c148⟩ ⟨_, _, _⟩ ⟨a212, n, n⟩ rfl (H.p4.p5.p4.p4.p5.p5)
      · intro g219 e218
        have H := H.newE e218
        refine ⟨?_, ?_⟩
        · refine ⟨by omega, by omega, by omega, by omega, ?_⟩
          intro g221 e220
          have H := (H.made kIS [] (fun g => repN _ _ g) (m := n * n) (by omega)).at e220
          intro g223 e222
          have H := H.newE e222
          refine (Repeat_ok hp hn (H)).mono ?_
          rintro v g225 ⟨a224, rfl, H⟩
          refine ⟨_, _, _, rfl, ?_⟩
          refine ⟨_, _, H.row m2, by simp, ?_⟩
          intro g227 e226
          have H := (H.p2).putE e226
          exact fin _ _ ⟨a147, n, c148⟩ ⟨_, _, _⟩ ⟨a224, n, n⟩ rfl (H.p4.p5.p3.p4.p5.p5)
        · intro g229 e228
          have H := H.newE e228
          refine ⟨?_, ?_⟩
          · refine ⟨by omega, by omega, by omega, by omega, ?_⟩
            intro g231 e230
            have H := (H.made kIS [] (fun g => repN _ _ g) (m := n * n) (by omega)).at e230
            refine (Repeat_ok hp hn (H.p1)).mono ?_
            rintro v g233 ⟨a232, rfl, H⟩
            refine ⟨_, _, _, rfl, ?_⟩
            refine ⟨_, _, H.row m2, by simp, ?_⟩
            intro g235 e234
            have H := (H.p2).putE e234
            exact fin _ _ ⟨a147, n, c148⟩ ⟨_, _, _⟩ ⟨a232, n, n⟩ rfl (H.p4.p5.p3.p4.p5.p5)
          · refine (Repeat_ok hp hn (H)).mono ?_
            rintro v g237 ⟨a236, rfl, H⟩
            refine ⟨_, _, _, rfl, ?_⟩
            refine ⟨by omega, by omega, by omega, by omega, ?_⟩
            intro g239 e238
            have H := (H.made kIS [] (fun g => repN _ _ g) (m := n * n) (by omega)).at e238
            refine ⟨_, _, H.row m2, by simp, ?_⟩
            intro g241 e240
            have H := (H.p2).putE e240
            exact fin _ _ ⟨a147, n, c148⟩ ⟨_, _, _⟩ ⟨a236, n, n⟩ rfl (H.p4.p5.p4.p4.p5.p5)
  · refine ⟨?_, ?_⟩
    · refine ⟨by omega, by omega, by omega, by omega, ?_⟩
      intro g243 e242
      have H := (H.made kIS [] (fun g => repN _ _ g) (m := n * n) (by omega)).at e242
      refine ⟨?_, ?_⟩
      · refine (Clone_ok (by omega) (H.p2)).mono ?_
        rintro v g246 ⟨a244, c245, rfl, H⟩
        refine ⟨_, _, _, rfl, ?_⟩
        refine ⟨?_, ?_⟩
        · intro g248 e247
          have H := H.newE e247
          refine ⟨?_, ?_⟩
          · refine (Repeat_ok hp hn (H)).mono ?_
            rintro v g250 ⟨a249, rfl, H⟩
            refine ⟨_, _, _, rfl, ?_⟩
            intro g252 e251
            have H := H.newE e251
            refine ⟨_, _, H.row m0, by simp, ?_⟩
            intro g254 e253
            have H := (H).putE e253
            exact fin _ _ ⟨a244, n, c245⟩ ⟨_, _, _⟩ ⟨a249, n, n⟩ rfl (H.p3.p5.p3.p5.p5.p5)
          · intro g256 e255
            have H := H.newE e255
            refine (Repeat_ok hp hn (H.p1)).mono ?_
            rintro v g258 ⟨a257, rfl, H⟩
            refine ⟨_, _, _, rfl, ?_⟩
            refine ⟨_, _, H.row m1, by simp, ?_⟩
            intro g260 e259
            have H := (H.p1).putE e259
            exact fin _ _ ⟨a244, n, c245⟩ ⟨_, _, _⟩ ⟨a257, n, n⟩ rfl (H.p3.p5.p3.p5.p5.p5)
        · intro g262 e261
          have H := H.newE e261
          intro g264 e263
          have H := H.newE e263
          refine (Repeat_ok hp hn (H)).mono ?_
          rintro v g266 ⟨a265, rfl, H⟩
          refine ⟨_, _, _, rfl, ?_⟩
          refine ⟨_, _, H.row m1, by simp, ?_⟩
          intro g268 e267
          have H := (H.p1).putE e267
          exact fin _ _ ⟨a244, n, c245⟩ ⟨_, _, _⟩ ⟨a265, n, n⟩ rfl (H.p3.p5.p3.p5.p5.p5)
      · refine ⟨?_, ?_⟩
        · intro g270 e269
          have H := H.newE e269
          refine ⟨?_, ?_⟩
          · refine (Clone_ok (by omega) (H.p3)).mono ?_
            rintro v g273 ⟨a271, c272, rfl, H⟩
            refine ⟨_, _, _, rfl, ?_⟩
            refine ⟨?_, ?_⟩
            · refine (Repeat_ok hp hn (H.p2)).mono ?_
              rintro v g275 ⟨a274, rfl, H⟩
              refine ⟨_, _, _, rfl, ?_⟩
              intro g277 e276
              have H := H.newE e276
              refine ⟨_, _, H.row m0, by simp, ?_⟩
              intro g279 e278
              have H := (H).putE e278
              exact fin _ _ ⟨a271, n, c272⟩ ⟨_, _, _⟩ ⟨a274, n, n⟩ rfl (H.p3.p5.p3.p5.p5.p5)
            · intro g281 e280
              have H := H.newE e280
              refine (Repeat_ok hp hn (H.p3)).mono ?_
              rintro v g283 ⟨a282, rfl, H⟩
              refine ⟨_, _, _, rfl, ?_⟩
              refine ⟨_, _, H.row m1, by simp, ?_⟩
              intro g285 e284
              have H := (H.p1).putE e284
              exact fin _ _ ⟨a271, n, c272⟩ ⟨_, _, _⟩ ⟨a282, n, n⟩ rfl (H.p3.p5.p3.p5.p5.p5)
          · intro g287 e286
            have H := H.newE e286
            refine (Clone_ok (by omega) (H.p4)).mono ?_
            rintro v g290 ⟨a288, c289, rfl, H⟩
            refine ⟨_, _, _, rfl, ?_⟩
            refine (Repeat_ok hp hn (H.p3)).mono ?_
            rintro v g292 ⟨a291, rfl, H⟩
            refine ⟨_, _, _, rfl, ?_⟩
            refine ⟨_, _, H.row m3, by simp, ?_⟩
            intro g294 e293
            have H := (H.p3).putE e293
            exact fin _ _ ⟨a288, n, c289⟩ ⟨_, _, _⟩ ⟨a291, n, n⟩ rfl (H.p3.p5.p3.p5.p5.p5)
        · intro g296 e295
          have H := H.newE e295
          refine ⟨?_, ?_⟩
          · refine (Clone_ok (by omega) (H.p3)).mono ?_
            rintro v g299 ⟨a297, c298, rfl, H⟩
            refine ⟨_, _, _, rfl, ?_⟩
            intro g301 e300
            have H := H.newE e300
            refine (Repeat_ok hp hn (H)).mono ?_
            rintro v g303 ⟨a302, rfl, H⟩
            refine ⟨_, _, _, rfl, ?_⟩
            refine ⟨_, _, H.row m3, by simp, ?_⟩
            intro g305 e304
            have H := (H.p3).putE e304
            exact fin _ _ ⟨a297, n, c298⟩ ⟨_, _, _⟩ ⟨a302, n, n⟩ rfl (H.p3.p5.p3.p5.p5.p5)
          · intro g307 e306
            have H := H.newE e306
            refine (Clone_ok (by omega) (H.p4)).mono ?_
            rintro v g310 ⟨a308, c309, rfl, H⟩
            refine ⟨_, _, _, rfl, ?_⟩
            refine (Repeat_ok hp hn (H.p2)).mono ?_
            rintro v g312 ⟨a311, rfl, H⟩
            refine ⟨_, _, _, rfl, ?_⟩
            refine ⟨_, _, H.row m3, by simp, ?_⟩
            intro g314 e313
            have H := (H.p3).putE e313
            exact fin _ _ ⟨a308, n, c309⟩ ⟨_, _, _⟩ ⟨a311, n, n⟩ rfl (H.p3.p5.p3.p5.p5.p5)
    · refine ⟨?_, ?_⟩
      · intro g316 e315
        have H := H.newE e315
        refine ⟨?_, ?_⟩
        · refine (Clone_ok (by omega) (H.p2)).mono ?_
          rintro v g319 ⟨a317, c318, rfl, H⟩
          refine ⟨_, _, _, rfl, ?_⟩
          refine ⟨?_, ?_⟩
          · refine ⟨by omega, by omega, by omega, by omega, ?_⟩
            intro g321 e320
            have H := (H.made kIS [] (fun g => repN _ _ g) (m := n * n) (by omega)).at e320
            refine ⟨?_, ?_⟩
            · refine (Repeat_ok hp hn (H.p3)).mono ?_
              rintro v g323 ⟨a322, rfl, H⟩
              refine ⟨_, _, _, rfl, ?_⟩
              intro g325 e324
              have H := H.newE e324
              refine ⟨_, _, H.row m0, by simp, ?_⟩
              intro g327 e326
              have H := (H).putE e326
              exact fin _ _ ⟨a317, n, c318⟩ ⟨_, _, _⟩ ⟨a322, n, n⟩ rfl (H.p4.p5.p3.p4.p5.p5)
            · intro g329 e328
              have H := H.newE e328
              refine (Repeat_ok hp hn (H.p4)).mono ?_
              rintro v g331 ⟨a330, rfl, H⟩
              refine ⟨_, _, _, rfl, ?_⟩
              refine ⟨_, _, H.row m1, by simp, ?_⟩
              intro g333 e332
              have H := (H.p1).putE e332
              exact fin _ _ ⟨a317, n, c318⟩ ⟨_, _, _⟩ ⟨a330, n, n⟩ rfl (H.p4.p5.p3.p4.p5.p5)
          · refine ⟨?_, ?_⟩
            · refine (Repeat_ok hp hn (H.p2)).mono ?_
              rintro v g335 ⟨a334, rfl, H⟩
              refine ⟨_, _, _, rfl, ?_⟩
              refine ⟨?_, ?_⟩
              · refine ⟨by omega, by omega, by omega, by omega, ?_⟩
                intro g337 e336
                have H := (H.made kIS [] (fun g => repN _ _ g) (m := n * n) (by omega)).at e336
                intro g339 e338
                have H := H.newE e338
                refine ⟨_, _, H.row m0, by simp, ?_⟩
                intro g341 e340
                have H := (H).putE e340
                exact fin _ _ ⟨a317, n, c318⟩ ⟨_, _, _⟩ ⟨a334, n, n⟩ rfl (H.p4.p5.p4.p4.p5.p5)
              · intro g343 e342
                have H := H.newE e342
                refine ⟨by omega, by omega, by omega, by omega, ?_⟩
                intro g345 e344
                have H := (H.made kIS [] (fun g => repN _ _ g) (m := n * n) (by omega)).at e344
                refine ⟨_, _, H.row m1, by simp, ?_⟩
                intro g347 e346
                have H := (H.p1).putE e346
                exact fin _ _ ⟨a317, n, c318⟩ ⟨_, _, _⟩ ⟨a334, n, n⟩ rfl (H.p4.p5.p4.p4.p5.p5)
            · intro g349 e348
              have H := H.newE e348
              refine ⟨?_, ?_⟩
              · refine ⟨by omega, by omega, by omega, by omega, ?_⟩
                intro g351 e350
                have H := (H.made kIS [] (fun g => repN _ _ g) (m := n * n) (by omega)).at e350
                refine (Repeat_ok hp hn (H.p4)).mono ?_
                rintro v g353 ⟨a352, rfl, H⟩
                refine ⟨_, _, _, rfl, ?_⟩
                refine ⟨_, _, H.row m2, by simp, ?_⟩
                intro g355 e354
                have H := (H.p2).putE e354
                exact fin _ _ ⟨a317, n, c318⟩ ⟨_, _, _⟩ ⟨a352, n, n⟩ rfl (H.p4.p5.p3.p4.p5.p5)
              · refine (Repeat_ok hp hn (H.p3)).mono ?_
                rintro v g357 ⟨a356, rfl, H⟩
                refine ⟨_, _, _, rfl, ?_⟩
                refine ⟨by omega, by omega, by omega, by omega, ?_⟩
                intro g359 e358
                have H := (H.made kIS [] (fun g => repN _ _ g) (m := n * n) (by omega)).at e358
                refine ⟨_, _, H.row m2, by simp, ?_⟩
                intro g361 e360
                have H := (H.p2).putE e360
                exact fin _ _ ⟨a317, n, c318⟩ ⟨_, _, _⟩ ⟨a356, n, n⟩ rfl (H.p4.p5.p4.p4.p5.p5)
        · refine ⟨?_, ?_⟩
          · refine ⟨by omega, by omega, by omega, by omega, ?_⟩
            intro g363 e362
            have H := (H.made kIS [] (fun g => repN _ _ g) (m := n * n) (by omega)).at e362
            refine ⟨?_, ?_⟩
            · refine (Clone_ok (by omega) (H.p3)).mono ?_
              rintro v g366 ⟨a364, c365, rfl, H⟩
              refine ⟨_, _, _, rfl, ?_⟩
              refine ⟨?_, ?_⟩
              · refine (Repeat_ok hp hn (H.p3)).mono ?_
                rintro v g368 ⟨a367, rfl, H⟩
                refine ⟨_, _, _, rfl, ?_⟩
                intro g370 e369
                have H := H.newE e369
                refine ⟨_, _, H.row m0, by simp, ?_⟩
                intro g372 e371
                have H := (H).putE e371
                exact fin _ _ ⟨a364, n, c365⟩ ⟨_, _, _⟩ ⟨a367, n, n⟩ rfl (H.p3.p5.p3.p5.p5.p5)
              · intro g374 e373
                have H := H.newE e373
                refine (Repeat_ok hp hn (H.p4)).mono ?_
                rintro v g376 ⟨a375, rfl, H⟩
                refine ⟨_, _, _, rfl, ?_⟩
                refine ⟨_, _, H.row m1, by simp, ?_⟩
                intro g378 e377
                have H := (H.p1).putE e377
                exact fin _ _ ⟨a364, n, c365⟩ ⟨_, _, _⟩ ⟨a375, n, n⟩ rfl (H.p3.p5.p3.p5.p5.p5)
            · intro g380 e379
              have H := H.newE e379
              refine (Clone_ok (by omega) (H.p4)).mono ?_
              rintro v g383 ⟨a381, c382, rfl, H⟩
              refine ⟨_, _, _, rfl, ?_⟩
              refine (Repeat_ok hp hn (H.p4)).mono ?_
              rintro v g385 ⟨a384, rfl, H⟩
              refine ⟨_, _, _, rfl, ?_⟩
              refine ⟨_, _, H.row m3, by simp, ?_⟩
              intro g387 e386
              have H := (H.p3).putE e386
              exact fin _ _ ⟨a381, n, c382⟩ ⟨_, _, _⟩ ⟨a384, n, n⟩ rfl (H.p3.p5.p3.p5.p5.p5)
          · intro g389 e388
            have H := H.newE e388
            refine ⟨?_, ?_⟩
            · refine (Clone_ok (by omega) (H.p3)).mono ?_
              rintro v g392 ⟨a390, c391, rfl, H⟩
              refine ⟨_, _, _, rfl, ?_⟩
              refine ⟨?_, ?_⟩
              · refine ⟨by omega, by omega, by omega, by omega, ?_⟩
                intro g394 e393
                have H := (H.made kIS [] (fun g => repN _ _ g) (m := n * n) (by omega)).at e393
                refine (Repeat_ok hp hn (H.p4)).mono ?_
                rintro v g396 ⟨a395, rfl, H⟩
                refine ⟨_, _, _, rfl, ?_⟩
                refine ⟨_, _, H.row m4, by simp, ?_⟩
                intro g398 e397
                have H := (H.p4).putE e397
                exact fin _ _ ⟨a390, n, c391⟩ ⟨_, _, _⟩ ⟨a395, n, n⟩ rfl (H.p4.p5.p3.p4.p5.p5)
              · refine (Repeat_ok hp hn (H.p3)).mono ?_
                rintro v g400 ⟨a399, rfl, H⟩
                refine ⟨_, _, _, rfl, ?_⟩
                refine ⟨by omega, by omega, by omega, by omega, ?_⟩
                intro g402 e401
                have H := (H.made kIS [] (fun g => repN _ _ g) (m := n * n) (by omega)).at e401
                refine ⟨_, _, H.row m4, by simp, ?_⟩
                intro g404 e403
                have H := (H.p4).putE e403
                exact fin _ _ ⟨a390, n, c391⟩ ⟨_, _, _⟩ ⟨a399, n, n⟩ rfl (H.p4.p5.p4.p4.p5.p5)
            · refine ⟨by omega, by omega, by omega, by omega, ?_⟩
              intro g406 e405
              have H := (H.made kIS [] (fun g => repN _ _ g) (m := n * n) (by omega)).at e405
              refine (Clone_ok (by omega) (H.p4)).mono ?_
              rintro v g409 ⟨a407, c408, rfl, H⟩
              refine ⟨_, _, _, rfl, ?_⟩
              refine (Repeat_ok hp hn (H.p4)).mono ?_
              rintro v g411 ⟨a410, rfl, H⟩
              refine ⟨_, _, _, rfl, ?_⟩
              refine ⟨_, _, H.row m4, by simp, ?_⟩
              intro g413 e412
              have H := (H.p4).putE e412
              exact fin _ _ ⟨a407, n, c408⟩ ⟨_, _, _⟩ ⟨a410, n, n⟩ rfl (H.p3.p5.p3.p5.p5.p5)
      · intro g415 e414
        have H := H.newE e414
        refine ⟨?_, ?_⟩
        · refine (Clone_ok (by omega) (H.p2)).mono ?_
          rintro v g418 ⟨a416, c417, rfl, H⟩
          refine ⟨_, _, _, rfl, ?_⟩
          refine ⟨?_, ?_⟩
          · refine ⟨by omega, by omega, by omega, by omega, ?_⟩
            intro g420 e419
            have H := (H.made kIS [] (fun g => repN _ _ g) (m := n * n) (by omega)).at e419
            intro g422 e421
            have H := H.newE e421
            refine (Repeat_ok hp hn (H)).mono ?_
            rintro v g424 ⟨a423, rfl, H⟩
            refine ⟨_, _, _, rfl, ?_⟩
            refine ⟨_, _, H.row m4, by simp, ?_⟩
            intro g426 e425
            have H := (H.p4).putE e425
            exact fin _ _ ⟨a416, n, c417⟩ ⟨_, _, _⟩ ⟨a423, n, n⟩ rfl (H.p4.p5.p3.p4.p5.p5)
          · intro g428 e427
            have H := H.newE e427
            refine ⟨?_, ?_⟩
            · refine ⟨by omega, by omega, by omega, by omega, ?_⟩
              intro g430 e429
              have H := (H.made kIS [] (fun g => repN _ _ g) (m := n * n) (by omega)).at e429
              refine (Repeat_ok hp hn (H.p1)).mono ?_
              rintro v g432 ⟨a431, rfl, H⟩
              refine ⟨_, _, _, rfl, ?_⟩
              refine ⟨_, _, H.row m4, by simp, ?_⟩
              intro g434 e433
              have H := (H.p4).putE e433
              exact fin _ _ ⟨a416, n, c417⟩ ⟨_, _, _⟩ ⟨a431, n, n⟩ rfl (H.p4.p5.p3.p4.p5.p5)
            · refine (Repeat_ok hp hn (H)).mono ?_
              rintro v g436 ⟨a435, rfl, H⟩
              refine ⟨_, _, _, rfl, ?_⟩
              refine ⟨by omega, by omega, by omega, by omega, ?_⟩
              intro g438 e437
              have H := (H.made kIS [] (fun g => repN _ _ g) (m := n * n) (by omega)).at e437
              refine ⟨_, _, H.row m4, by simp, ?_⟩
              intro g440 e439
              have H := (H.p4).putE e439
              exact fin _ _ ⟨a416, n, c417⟩ ⟨_, _, _⟩ ⟨a435, n, n⟩ rfl (H.p4.p5.p4.p4.p5.p5)
        · refine ⟨?_, ?_⟩
          · refine ⟨by omega, by omega, by omega, by omega, ?_⟩
            intro g442 e441
            have H := (H.made kIS [] (fun g => repN _ _ g) (m := n * n) (by omega)).at e441
            refine ⟨?_, ?_⟩
            · refine (Clone_ok (by omega) (H.p3)).mono ?_
              rintro v g445 ⟨a443, c444, rfl, H⟩
              refine ⟨_, _, _, rfl, ?_⟩
              intro g447 e446
              have H := H.newE e446
              refine (Repeat_ok hp hn (H)).mono ?_
              rintro v g449 ⟨a448, rfl, H⟩
              refine ⟨_, _, _, rfl, ?_⟩
              refine ⟨_, _, H.row m4, by simp, ?_⟩
              intro g451 e450
              have H := (H.p4).putE e450
              exact fin _ _ ⟨a443, n, c444⟩ ⟨_, _, _⟩ ⟨a448, n, n⟩ rfl (H.p3.p5.p3.p5.p5.p5)
            · intro g453 e452
              have H := H.newE e452
              refine (Clone_ok (by omega) (H.p4)).mono ?_
              rintro v g456 ⟨a454, c455, rfl, H⟩
              refine ⟨_, _, _, rfl, ?_⟩
              refine (Repeat_ok hp hn (H.p2)).mono ?_
              rintro v g458 ⟨a457, rfl, H⟩
              refine ⟨_, _, _, rfl, ?_⟩
              refine ⟨_, _, H.row m4, by simp, ?_⟩
              intro g460 e459
              have H := (H.p4).putE e459
              exact fin _ _ ⟨a454, n, c455⟩ ⟨_, _, _⟩ ⟨a457, n, n⟩ rfl (H.p3.p5.p3.p5.p5.p5)
          · intro g462 e461
            have H := H.newE e461
            refine ⟨?_, ?_⟩
            · refine (Clone_ok (by omega) (H.p3)).mono ?_
              rintro v g465 ⟨a463, c464, rfl, H⟩
              refine ⟨_, _, _, rfl, ?_⟩
              refine ⟨?_, ?_⟩
              · refine ⟨by omega, by omega, by omega, by omega, ?_⟩
                intro g467 e466
                have H := (H.made kIS [] (fun g => repN _ _ g) (m := n * n) (by omega)).at e466
                refine (Repeat_ok hp hn (H.p3)).mono ?_
                rintro v g469 ⟨a468, rfl, H⟩
                refine ⟨_, _, _, rfl, ?_⟩
                refine ⟨_, _, H.row m4, by simp, ?_⟩
                intro g471 e470
                have H := (H.p4).putE e470
                exact fin _ _ ⟨a463, n, c464⟩ ⟨_, _, _⟩ ⟨a468, n, n⟩ rfl (H.p4.p5.p3.p4.p5.p5)
              · refine (Repeat_ok hp hn (H.p2)).mono ?_
                rintro v g473 ⟨a472, rfl, H⟩
                refine ⟨_, _, _, rfl, ?_⟩
                refine ⟨by omega, by omega, by omega, by omega, ?_⟩
                intro g475 e474
                have H := (H.made kIS [] (fun g => repN _ _ g) (m := n * n) (by omega)).at e474
                refine ⟨_, _, H.row m4, by simp, ?_⟩
                intro g477 e476
                have H := (H.p4).putE e476
                exact fin _ _ ⟨a463, n, c464⟩ ⟨_, _, _⟩ ⟨a472, n, n⟩ rfl (H.p4.p5.p4.p4.p5.p5)
            · refine ⟨by omega, by omega, by omega, by omega, ?_⟩
              intro g479 e478
              have H := (H.made kIS [] (fun g => repN _ _ g) (m := n * n) (by omega)).at e478
              refine (Clone_ok (by omega) (H.p4)).mono ?_
              rintro v g482 ⟨a480, c481, rfl, H⟩
              refine ⟨_, _, _, rfl, ?_⟩
              refine (Repeat_ok hp hn (H.p3)).mono ?_
              rintro v g484 ⟨a483, rfl, H⟩
              refine ⟨_, _, _, rfl, ?_⟩
              refine ⟨_, _, H.row m4, by simp, ?_⟩
              intro g486 e485
              have H := (H.p4).putE e485
              exact fin _ _ ⟨a480, n, c481⟩ ⟨_, _, _⟩ ⟨a483, n, n⟩ rfl (H.p3.p5.p3.p5.p5.p5)
end
end Go.Proofs.Ytjmhahjmbmiepaa.D
