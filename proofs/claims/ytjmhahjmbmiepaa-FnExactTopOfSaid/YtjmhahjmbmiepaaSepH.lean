/- One element is put into a slice: what the library's Insert comes to. -/
import Derived.Test.YtjmhahjmbmiepaaSepG
namespace Go.Proofs.Ytjmhahjmbmiepaa.D
open Go
set_option linter.unusedVariables false
set_option linter.unusedSimpArgs false

def InsM (P : Program) (t : TypeId) (sz : Nat) (zs : List Value) (fo fr : FuncId) (ap0_1 : Option Addr) (np0_1 cp0_1 : Nat) (xp1_2 : Int) (ap2_3 : Option Addr) (np2_3 cp2_3 : Nat) (h : Heap) (R : Value → Heap → Prop) : Prop :=
  (0 : Int) ≤ xp1_2 ∧ (xp1_2 : Int) ≤ ((np0_1 : Nat) : Int) ∧ ((np0_1 : Nat) : Int) ≤ ((cp0_1 : Nat) : Int) ∧
  ((((((np2_3 : Nat) : Int) : Int) == 0) = true →
    R (.slice ap0_1 np0_1 cp0_1) h) ∧
  (((((np2_3 : Nat) : Int) : Int) == 0) = false →
    ((((xp1_2 : Int) == ((np0_1 : Nat) : Int)) = true →
      appendH h t sz zs ap0_1 np0_1 cp0_1 ap2_3 np2_3 fun (a25_4 : Option Addr) (n25_4 c25_4 : Nat) (h4 : Heap) =>
      R (.slice a25_4 n25_4 c25_4) h4) ∧
    (((xp1_2 : Int) == ((np0_1 : Nat) : Int)) = false →
      (((decide (((IntKind.i64.wrap (((np0_1 : Nat) : Int) + ((np2_3 : Nat) : Int))) : Int) > ((cp0_1 : Nat) : Int))) = true →
        (0 : Int) ≤ 0 ∧ (0 : Int) ≤ xp1_2 ∧ xp1_2 ≤ ((cp0_1 : Nat) : Int) ∧
        appendZH h t sz zs ap0_1 xp1_2.toNat cp0_1 (IntKind.i64.wrap ((IntKind.i64.wrap (((np0_1 : Nat) : Int) + ((np2_3 : Nat) : Int))) - xp1_2)) fun (a40_5 : Option Addr) (n40_5 c40_5 : Nat) (h5 : Heap) =>
        (0 : Int) ≤ xp1_2 ∧ (xp1_2 : Int) ≤ ((n40_5 : Nat) : Int) ∧ ((n40_5 : Nat) : Int) ≤ ((c40_5 : Nat) : Int) ∧
        copyH h5 sz (subA a40_5 c40_5 xp1_2.toNat sz) (n40_5 - xp1_2.toNat) ap2_3 np2_3 fun (k6 : Nat) (h6 : Heap) =>
        (0 : Int) ≤ IntKind.i64.wrap (xp1_2 + ((np2_3 : Nat) : Int)) ∧ (IntKind.i64.wrap (xp1_2 + ((np2_3 : Nat) : Int)) : Int) ≤ ((n40_5 : Nat) : Int) ∧ ((n40_5 : Nat) : Int) ≤ ((c40_5 : Nat) : Int) ∧
        (0 : Int) ≤ xp1_2 ∧ (xp1_2 : Int) ≤ ((np0_1 : Nat) : Int) ∧ ((np0_1 : Nat) : Int) ≤ ((cp0_1 : Nat) : Int) ∧
        copyH h6 sz (subA a40_5 c40_5 (IntKind.i64.wrap (xp1_2 + ((np2_3 : Nat) : Int))).toNat sz) (n40_5 - (IntKind.i64.wrap (xp1_2 + ((np2_3 : Nat) : Int))).toNat) (subA ap0_1 cp0_1 xp1_2.toNat sz) (np0_1 - xp1_2.toNat) fun (k7 : Nat) (h7 : Heap) =>
        R (.slice a40_5 n40_5 c40_5) h7) ∧
      ((decide (((IntKind.i64.wrap (((np0_1 : Nat) : Int) + ((np2_3 : Nat) : Int))) : Int) > ((cp0_1 : Nat) : Int))) = false →
        (0 : Int) ≤ 0 ∧ (0 : Int) ≤ IntKind.i64.wrap (((np0_1 : Nat) : Int) + ((np2_3 : Nat) : Int)) ∧ IntKind.i64.wrap (((np0_1 : Nat) : Int) + ((np2_3 : Nat) : Int)) ≤ ((cp0_1 : Nat) : Int) ∧
        (0 : Int) ≤ IntKind.i64.wrap (xp1_2 + ((np2_3 : Nat) : Int)) ∧ (IntKind.i64.wrap (xp1_2 + ((np2_3 : Nat) : Int)) : Int) ≤ (((IntKind.i64.wrap (((np0_1 : Nat) : Int) + ((np2_3 : Nat) : Int))).toNat : Nat) : Int) ∧ (((IntKind.i64.wrap (((np0_1 : Nat) : Int) + ((np2_3 : Nat) : Int))).toNat : Nat) : Int) ≤ ((cp0_1 : Nat) : Int) ∧
        ExtH P fo [.slice ap2_3 np2_3 cp2_3, .slice (subA ap0_1 cp0_1 (IntKind.i64.wrap (xp1_2 + ((np2_3 : Nat) : Int))).toNat sz) ((((IntKind.i64.wrap (((np0_1 : Nat) : Int) + ((np2_3 : Nat) : Int))).toNat : Nat) : Int).toNat - (IntKind.i64.wrap (xp1_2 + ((np2_3 : Nat) : Int))).toNat) (cp0_1 - (IntKind.i64.wrap (xp1_2 + ((np2_3 : Nat) : Int))).toNat)] h fun (v8 : Value) (h8 : Heap) =>
        ∃ (t67_9 : Bool), v8 = .bool t67_9 ∧
        (((!t67_9) = true →
          (0 : Int) ≤ IntKind.i64.wrap (xp1_2 + ((np2_3 : Nat) : Int)) ∧ (IntKind.i64.wrap (xp1_2 + ((np2_3 : Nat) : Int)) : Int) ≤ (((IntKind.i64.wrap (((np0_1 : Nat) : Int) + ((np2_3 : Nat) : Int))).toNat : Nat) : Int) ∧ (((IntKind.i64.wrap (((np0_1 : Nat) : Int) + ((np2_3 : Nat) : Int))).toNat : Nat) : Int) ≤ ((cp0_1 : Nat) : Int) ∧
          (0 : Int) ≤ xp1_2 ∧ (xp1_2 : Int) ≤ (((IntKind.i64.wrap (((np0_1 : Nat) : Int) + ((np2_3 : Nat) : Int))).toNat : Nat) : Int) ∧ (((IntKind.i64.wrap (((np0_1 : Nat) : Int) + ((np2_3 : Nat) : Int))).toNat : Nat) : Int) ≤ ((cp0_1 : Nat) : Int) ∧
          copyH h8 sz (subA ap0_1 cp0_1 (IntKind.i64.wrap (xp1_2 + ((np2_3 : Nat) : Int))).toNat sz) ((((IntKind.i64.wrap (((np0_1 : Nat) : Int) + ((np2_3 : Nat) : Int))).toNat : Nat) : Int).toNat - (IntKind.i64.wrap (xp1_2 + ((np2_3 : Nat) : Int))).toNat) (subA ap0_1 cp0_1 xp1_2.toNat sz) ((((IntKind.i64.wrap (((np0_1 : Nat) : Int) + ((np2_3 : Nat) : Int))).toNat : Nat) : Int).toNat - xp1_2.toNat) fun (k10 : Nat) (h10 : Heap) =>
          (0 : Int) ≤ xp1_2 ∧ (xp1_2 : Int) ≤ (((IntKind.i64.wrap (((np0_1 : Nat) : Int) + ((np2_3 : Nat) : Int))).toNat : Nat) : Int) ∧ (((IntKind.i64.wrap (((np0_1 : Nat) : Int) + ((np2_3 : Nat) : Int))).toNat : Nat) : Int) ≤ ((cp0_1 : Nat) : Int) ∧
          copyH h10 sz (subA ap0_1 cp0_1 xp1_2.toNat sz) ((((IntKind.i64.wrap (((np0_1 : Nat) : Int) + ((np2_3 : Nat) : Int))).toNat : Nat) : Int).toNat - xp1_2.toNat) ap2_3 np2_3 fun (k11 : Nat) (h11 : Heap) =>
          R (.slice ap0_1 ((IntKind.i64.wrap (((np0_1 : Nat) : Int) + ((np2_3 : Nat) : Int))).toNat) cp0_1) h11) ∧
        ((!t67_9) = false →
          (0 : Int) ≤ ((np0_1 : Nat) : Int) ∧ (((np0_1 : Nat) : Int) : Int) ≤ (((IntKind.i64.wrap (((np0_1 : Nat) : Int) + ((np2_3 : Nat) : Int))).toNat : Nat) : Int) ∧ (((IntKind.i64.wrap (((np0_1 : Nat) : Int) + ((np2_3 : Nat) : Int))).toNat : Nat) : Int) ≤ ((cp0_1 : Nat) : Int) ∧
          copyH h8 sz (subA ap0_1 cp0_1 np0_1 sz) ((((IntKind.i64.wrap (((np0_1 : Nat) : Int) + ((np2_3 : Nat) : Int))).toNat : Nat) : Int).toNat - np0_1) ap2_3 np2_3 fun (k12 : Nat) (h12 : Heap) =>
          (0 : Int) ≤ xp1_2 ∧ (xp1_2 : Int) ≤ (((IntKind.i64.wrap (((np0_1 : Nat) : Int) + ((np2_3 : Nat) : Int))).toNat : Nat) : Int) ∧ (((IntKind.i64.wrap (((np0_1 : Nat) : Int) + ((np2_3 : Nat) : Int))).toNat : Nat) : Int) ≤ ((cp0_1 : Nat) : Int) ∧
          CallsH P fr [.slice (subA ap0_1 cp0_1 xp1_2.toNat sz) ((((IntKind.i64.wrap (((np0_1 : Nat) : Int) + ((np2_3 : Nat) : Int))).toNat : Nat) : Int).toNat - xp1_2.toNat) (cp0_1 - xp1_2.toNat), .int .i64 ((np2_3 : Nat) : Int)] h12 fun (v13 : Value) (h13 : Heap) =>
          v13 = .tuple ⟨[]⟩ ∧
          R (.slice ap0_1 ((IntKind.i64.wrap (((np0_1 : Nat) : Int) + ((np2_3 : Nat) : Int))).toNat) cp0_1) h13))))))))

section
variable {α : Type} {k : Kind α} {h : Heap} {L : List Asn} {xs : List α} {a : Option Addr} {n c : Nat}
theorem spliceAt {A B N : List Value} {o : Nat} (ho : o = A.length) (hl : N.length ≤ B.length) : splice (A ++ B) o N = A ++ N ++ B.drop N.length := by
  subst ho
  have := splice_mid (pre := A) (cs := []) (post := B) (news := N) hl
  simpa using this
theorem subA_some {b o c l s : Nat} (h : c ≠ l) : subA (some ⟨b, o, none⟩) c l s = some ⟨b, o + l * s, none⟩ := by
  unfold subA
  rw [if_neg h, mulS_eq, Option.map_some]
  unfold Addr.add
  split
  · rename_i h0; rw [h0]; rfl
  · rfl
theorem Own.neq {b b' : Nat} {e e' : TypeId} {cs cs' : List Value} (H : Own h (rowA b e cs :: rowA b' e' cs' :: L)) : b ≠ b' := by
  obtain ⟨F, F1, F2, e0, d, ⟨_, h1⟩, G1, G2, e1, d1, ⟨_, h2⟩, k⟩ := H
  rintro rfl
  exact d b ((h1 b).2 rfl) ((e1 b).2 (.inl ((h2 b).2 rfl)))
theorem cellsRow {b : Nat} {t : TypeId} {pre cs post : List Value} {o m : Nat} (r : Row h b t (pre ++ (cs ++ post))) (ho : o = pre.length) (hm : cs.length = m) : CellsAt h (some ⟨b, o, none⟩) cs m := by
  subst ho hm
  exact cells_mid (by rw [List.append_assoc]; exact r)

theorem Insert_core {P : Program} {zs : List Value} {fo fr : FuncId} {y : α} {i b' c2 : Nat} {e' : TypeId} {ci : List Value} {R : Value → Heap → Prop} (H : Own h (slA k xs a n c :: elA k y ci :: rowA b' e' ci :: L)) (hi : i ≤ n) (hmax : n + 1 ≤ 536870912)
    (hz : zs.length = k.size) (ho : ∀ (b o la ca : Nat), b' ≠ b → (∃ e c, Row h b e c ∧ c ≠ []) → ExtH P fo [.slice (some ⟨b', 0, none⟩) 1 c2, .slice (some ⟨b, o, none⟩) la ca] h fun v h' => v = .bool false ∧ h' = h)
    (hk : ∀ a' c' h', Own h' (slA k (xs.take i ++ y :: xs.drop i) a' (n + 1) c' :: rowA b' e' ci :: L) → R (.slice a' (n + 1) c') h') :
    InsM P k.tid k.size zs fo fr a n c (i : Int) (some ⟨b', 0, none⟩) 1 c2 h R := by
  unfold InsM
  obtain ⟨hn, hc, hm⟩ := H.len m0
  have w1 : IntKind.i64.wrap ((n : Int) + ((1 : Nat) : Int)) = ((n + 1 : Nat) : Int) := by rw [wrap64_of (by omega) (by omega)]; omega
  have w2 : IntKind.i64.wrap ((i : Int) + ((1 : Nat) : Int)) = ((i + 1 : Nat) : Int) := by rw [wrap64_of (by omega) (by omega)]; omega
  have w3 : IntKind.i64.wrap (((n + 1 : Nat) : Int) - (i : Int)) = ((n + 1 - i : Nat) : Int) := by rw [wrap64_of (by omega) (by omega)]; omega
  rw [w1, w2, w3]
  simp only [Int.toNat_natCast]
  refine ⟨by omega, by omega, by omega, fun h0 => by simp at h0, fun _ => ⟨fun he => ?_, fun hne => ?_⟩⟩
  · have he : i = n := by have h1 : (i : Int) = n := (by simpa using he); omega
    refine H.appendOwn m0 (by omega) hz fun a' c' h' H => hk a' c' h' ?_
    rw [he, hn, List.take_length, List.drop_length]
    rw [hn] at H
    exact H
  · have hlt : i < n := by have h1 : ¬ (i : Int) = n := (by simpa using hne); omega
    have hri : Row h b' e' ci := H.row m2
    obtain ⟨_, _, _, hs⟩ := H.slOpen
    rcases hs with ⟨rfl, rfl, _⟩ | ⟨b, pre, cs, post, rfl, hp, H⟩
    · omega
    obtain ⟨d1, d2, rfl, hd1, H⟩ := H.p1.elsSplit (i := i) (by omega)
    have hd2 := H.p1.elsLen
    rw [List.length_drop, ← hn] at hd2
    have hci := H.p3.elLen
    have o2 := H.p1.elsOne
    have oy := H.p3.elOne
    have hy : CellsAt h (some ⟨b', 0, none⟩) ci (1 * k.size) := cellsRow (pre := []) (post := []) (by simpa using hri) rfl (by omega)
    have hrb : Row h b k.tid (pre ++ (d1 ++ d2) ++ post) := H.row m2
    refine ⟨fun hgt => ?_, fun hle => ?_⟩
    · have hgt : c < n + 1 := by have := of_decide_eq_true hgt; omega
      refine ⟨by omega, by omega, by omega, ?_⟩
      refine ⟨by omega, by omega, (fun h => by cases h), fun hfit => by omega, fun _ => ?_⟩
      refine ⟨d1, cellsRow (pre := pre) (post := d2 ++ post) (by simpa using hrb) rfl hd1, fun nc hnc => ?_⟩
      have H := H.new k.tid (d1 ++ repl zs ((n + 1 - i : Nat) : Int).toNat ++ repl zs (nc - (i + ((n + 1 - i : Nat) : Int).toNat)))
      rw [Int.toNat_natCast] at hnc ⊢ H
      have hnc : n + 1 ≤ nc := by omega
      have hZ : (repl zs (n + 1 - i) ++ repl zs (nc - (i + (n + 1 - i)))).length = (nc - i) * k.size := by
        rw [List.length_append, repl_length, repl_length, hz, ← Nat.add_mul]; congr 1; omega
      rw [List.append_assoc] at H ⊢
      generalize repl zs (n + 1 - i) ++ repl zs (nc - (i + (n + 1 - i))) = Z at hZ H ⊢
      have hbig : k.size + (n - i) * k.size ≤ (nc - i) * k.size := by
        have : k.size + (n - i) * k.size = (n - i + 1) * k.size := by rw [Nat.succ_mul]; omega
        rw [this]; exact Nat.mul_le_mul_right _ (by omega)
      refine ⟨by omega, by omega, by omega, ?_⟩
      rw [subA_some (by omega), Nat.zero_add]
      refine ⟨(fun h => by cases h), ci, ?_, oy, rfl, ?_⟩
      · have : min 1 (i + (n + 1 - i) - i) = 1 := by omega
        rw [this]
        have hr2 := H.row m5
        exact cellsRow (pre := []) (post := []) (by simpa using hr2) rfl (by omega)
      refine H.wr (by simp; omega) fun h6 H => ?_
      dsimp only at H
      rw [spliceAt hd1.symm (by omega)] at H
      refine ⟨by omega, by omega, by omega, by omega, by omega, by omega, ?_⟩
      rw [subA_some (by omega), subA_some (by omega), Nat.zero_add]
      refine ⟨(fun h => by cases h), d2, ?_, o2, rfl, ?_⟩
      · have : min (n - i) (i + (n + 1 - i) - (i + 1)) = n - i := by omega
        rw [this]
        have hr2 := H.row m3
        exact cellsRow (pre := pre ++ d1) (post := post) (by simpa using hr2) (by simp; omega) hd2
      have hsz : (i + 1) * k.size = i * k.size + k.size := Nat.succ_mul _ _
      refine H.wr (by simp; omega) fun h7 H => ?_
      dsimp only at H
      have e1 : (i + 1) * k.size = (d1 ++ ci).length := by rw [List.length_append, hd1, hci, Nat.succ_mul]
      rw [spliceAt e1 (by rw [List.length_drop, hZ]; omega)] at H
      rw [show i + (n + 1 - i) = n + 1 by omega]
      have H := ((H.p4.elsSingle).p3.p1.elsJoin)
      have H := H.p2.elsJoin
      have hlen : (xs.take i ++ ([y] ++ xs.drop i)).length = n + 1 := by simp; omega
      have H : Own h7 (rowA h.size k.tid ([] ++ (d1 ++ (ci ++ d2)) ++ (Z.drop ci.length).drop d2.length) :: elsA k (xs.take i ++ ([y] ++ xs.drop i)) (d1 ++ (ci ++ d2)) :: rowA b' e' ci :: L) := by
        have := H.p1.r2
        simpa using this
      have := Own.slShut (c := nc) (by omega) (by omega) (by rw [hlen, List.length_drop, List.length_drop, hZ, hci, hd2]; rw [Nat.sub_sub, show k.size + (n - i) * k.size = (n - i + 1) * k.size by rw [Nat.succ_mul]; omega, ← Nat.sub_mul]; exact Nat.mul_le_mul_right _ (by omega)) H
      rw [hlen] at this
      exact hk _ _ _ this
    · have hle : n + 1 ≤ c := by have := of_decide_eq_false hle; omega
      have hne := (H.p4.p3).neq
      have hpost : k.size ≤ post.length := Nat.le_trans (by have := Nat.mul_le_mul_right k.size (show 1 ≤ c - n by omega); omega) hp
      refine ⟨by omega, by omega, by omega, by omega, by omega, by omega, ?_⟩
      rw [subA_some (by omega), subA_some (by omega)]
      have hne0 : pre ++ (d1 ++ d2) ++ post ≠ [] := by
        intro h0
        have := congrArg List.length h0
        simp only [List.length_append, List.length_nil] at this
        have := k.pos
        omega
      intro w hw
      obtain ⟨v, w', hr, hsame, rfl, hh⟩ := ho b (pre.length + (i + 1) * k.size) (n + 1 - (i + 1)) (c - (i + 1)) hne.symm ⟨_, _, hrb, hne0⟩ w hw
      refine ⟨_, w', hr, hsame, _, rfl, fun _ => ?_, fun hx => by cases hx⟩
      rw [hh]
      refine ⟨by omega, by omega, by omega, by omega, by omega, by omega, ?_⟩
      refine ⟨(fun h => by cases h), d2, ?_, o2, rfl, ?_⟩
      · have : min (n + 1 - i) (n + 1 - (i + 1)) = n - i := by omega
        rw [this]
        exact cellsRow (pre := pre ++ d1) (post := post) (by simpa using hrb) (by simp; omega) hd2
      have e0 : pre ++ (d1 ++ d2) ++ post = (pre ++ d1 ++ (d2 ++ post).take k.size) ++ (d2 ++ post).drop k.size := by
        simp only [List.append_assoc, List.take_append_drop]
      have hsz : (i + 1) * k.size = i * k.size + k.size := Nat.succ_mul _ _
      have H := H.p2
      rw [e0] at H
      refine H.wr (by simp; omega) fun h10 H => ?_
      dsimp only at H
      rw [spliceAt (by simp; omega) (by simp; omega)] at H
      refine ⟨by omega, by omega, by omega, ?_⟩
      refine ⟨(fun h => by cases h), ci, ?_, oy, rfl, ?_⟩
      · have : min 1 (n + 1 - i) = 1 := by omega
        rw [this]
        have hr2 := H.row m4
        exact cellsRow (pre := []) (post := []) (by simpa using hr2) rfl (by omega)
      have e2 : pre ++ d1 ++ (d2 ++ post).take k.size ++ d2 ++ ((d2 ++ post).drop k.size).drop d2.length = (pre ++ d1) ++ ((d2 ++ post).take k.size ++ (d2 ++ ((d2 ++ post).drop k.size).drop d2.length)) := by simp only [List.append_assoc]
      rw [e2] at H
      refine H.wr (by simp; omega) fun h11 H => ?_
      dsimp only at H
      have ht : ((d2 ++ post).take k.size).length = ci.length := by rw [List.length_take, List.length_append]; omega
      rw [spliceAt (by simp; omega) (by simp; omega), List.drop_append_of_le_length (by omega), List.drop_eq_nil_of_le (by omega), List.nil_append] at H
      have H := ((H.p3.elsSingle).p3.p1.elsJoin)
      have H := H.p2.elsJoin
      have hlen : (xs.take i ++ ([y] ++ xs.drop i)).length = n + 1 := by simp; omega
      have H : Own h11 (rowA b k.tid (pre ++ (d1 ++ (ci ++ d2)) ++ ((d2 ++ post).drop k.size).drop d2.length) :: elsA k (xs.take i ++ ([y] ++ xs.drop i)) (d1 ++ (ci ++ d2)) :: rowA b' e' ci :: L) := by
        have := H.p1
        simpa using this
      have := Own.slShut (c := c) (by omega) (by omega) (by
        rw [hlen]
        have e3 : (c - n) * k.size = (c - (n + 1)) * k.size + k.size := by rw [show c - n = c - (n + 1) + 1 by omega, Nat.succ_mul]
        simp; omega) H
      rw [hlen] at this
      exact hk _ _ _ this
end
end Go.Proofs.Ytjmhahjmbmiepaa.D
