/- append of a row of zeros. -/
import Derived.Test.YtjmhahjmbmiepaaDenG
namespace Go.Proofs.Ytjmhahjmbmiepaa.D
open Go
set_option linter.unusedVariables false
set_option linter.unusedSimpArgs false

/-- 'append(s, make([]T, m)...)' -/
def appendZH (h : Heap) (e : TypeId) (sz : Nat) (zs : List Value) (a : Option Addr) (n c : Nat) (m : Int) (K : Option Addr → Nat → Nat → Heap → Prop) : Prop :=
  0 ≤ m ∧ (n : Int) + m ≤ 1073741824 ∧ (a = none → n = 0) ∧
    (n + m.toNat ≤ c → match a with
      | none => K a (n + m.toNat) c h
      | some ad => ad.spot = none ∧ wrH h ad.block (ad.off + n * sz) (repl zs m.toNat) fun h' => K a (n + m.toNat) c h') ∧
    (c < n + m.toNat → ∃ old : List Value, CellsAt h a old (n * sz) ∧ ∀ nc, n + m.toNat ≤ nc → K (some ⟨h.size, 0, none⟩) (n + m.toNat) nc (newRowH h e (old ++ repl zs m.toNat ++ repl zs (nc - (n + m.toNat)))))
def denAppendZ (T : Types) (t u : TypeId) (x : LV) (m : Int) (h : Heap) (K : KS) : Prop := match look T t, look T u with
  | some ⟨.slice e, _, _⟩, some ⟨.int .i64, _, _⟩ => (match look T e with
    | some i => bif i.wf && Nat.ble 1 i.leaves.length && Nat.ble i.bytes 4096 && Nat.ble 1 i.bytes then
        withS x fun a n c => appendZH h e i.leaves.length (i.leaves.map Leaf.zero) a n c m fun a' n' c' h' => K (.t (.l (.sl a' n' c'))) h' else False
    | none => False)
  | _, _ => False
theorem oneV_zero (l : Leaf) : oneV l.zero = true := by cases l <;> rfl
theorem mem_repl0 {zs : List Value} {m : Nat} {v : Value} (h : v ∈ repl zs m) : v ∈ zs := by
  rw [repl_eq] at h
  simp at h
  obtain ⟨l, ⟨_, rfl⟩, hv⟩ := h
  exact hv
section
variable {P : Program} {T : Types} {h : Heap}
theorem denAppendZ_sound (hT : TOk P T) {t u ty : TypeId} {x : LV} {m : Int} {K : KS} (hd : denAppendZ T t u x m h K) : VOk false P (Builtin.append_ #[t, u] ty #[x.val, .int .i64 m]) h K := by
  unfold denAppendZ at hd
  split at hd
  · rename_i e _ _ _ _ ht hu
    split at hd
    · rename_i i hi
      cases hc : (i.wf && Nat.ble 1 i.leaves.length && Nat.ble i.bytes 4096 && Nat.ble 1 i.bytes) with
      | false => rw [hc] at hd; exact hd.elim
      | true =>
        rw [hc] at hd
        simp only [cond_true] at hd
        simp only [Bool.and_eq_true] at hc
        obtain ⟨⟨⟨hw, hpos⟩, hby⟩, hby1⟩ := hc
        have hpos := Nat.le_of_ble_eq_true hpos
        have hby := Nat.le_of_ble_eq_true hby
        have hby1 := Nat.le_of_ble_eq_true hby1
        obtain ⟨a, n, c, hx, hd⟩ := withS_of hd
        obtain ⟨hm0, hmax, hn1, hfit, hgrow⟩ := hd
        obtain ⟨m, rfl⟩ := Int.eq_ofNat_of_zero_le hm0
        have emt : ((m : Int)).toNat = m := rfl
        rw [emt] at hfit hgrow
        rw [hx]
        unfold Builtin.append_
        have e1 : (#[t, u] : Array TypeId)[0]? = some t := rfl
        have e2 : (#[t, u] : Array TypeId)[1]? = some u := rfl
        have e3 : (#[Value.slice a n c, Value.int .i64 (m : Int)] : Array Value)[0]? = some (.slice a n c) := rfl
        have e4 : (#[Value.slice a n c, Value.int .i64 (m : Int)] : Array Value)[1]? = some (.int .i64 m) := rfl
        simp only [e1, e2, e3, e4]
        refine SOk.bind (hT.sok_under ht fun d hdd => ?_)
        rw [strip_slice hdd]
        refine SOk.bind (hT.sok_size hi ?_)
        refine SOk.bind (hT.sok_under hu fun d hdd => ?_)
        rw [strip_int hdd]
        refine SOk.bind (SOk.pure ?_)
        simp only [if_true, Bool.not_true, Bool.false_eq_true, if_false]
        refine SOk.bind (SOk.pure (a := (m : Int)) ?_)
        have hm30 : m ≤ 1073741824 := by omega
        rw [wrap_i64 (by omega) (by omega), if_neg (by omega)]
        refine SOk.bind (hT.sok_info hi fun j _ _ hjb => ?_)
        have hmb : ¬ ((m : Int) * (j.bytes : Int) > 2 ^ 48) := by
          rw [hjb]
          have h1 : m * i.bytes ≤ 1073741824 * 4096 := Nat.mul_le_mul hm30 hby
          have h2 : (m : Int) * (i.bytes : Int) = ((m * i.bytes : Nat) : Int) := by simp
          rw [h2]
          omega
        rw [if_neg hmb]
        refine SOk.bind (SOk.pure (a := m) ?_)
        have newZ : ∀ {g : Heap} {K' : Array Value → Heap → Prop}, K' ⟨repl (i.leaves.map Leaf.zero) m⟩ g → SOk false P (if m * i.leaves.length = 0 then pure #[] else do
            let z ← zeroValue e
            pure (Builtin.zeroCells z.cells m)) g K' := by
          intro g K' hk
          by_cases h0 : m * i.leaves.length = 0
          · rw [if_pos h0]
            have : m = 0 := by
              rcases Nat.mul_eq_zero.1 h0 with h | h
              · exact h
              · omega
            subst this
            rw [repl_eq] at hk
            exact SOk.pure hk
          · rw [if_neg h0]
            refine SOk.bind (hT.sok_zero hi ?_)
            rw [TI.zero_cells hw, zeroCells_eq _ _ (by simp; omega)]
            exact SOk.pure hk
        have hone : ∀ v ∈ repl (i.leaves.map Leaf.zero) m, oneV v = true := fun v hv => by
          have := mem_repl0 hv
          simp at this
          obtain ⟨l, _, rfl⟩ := this
          exact oneV_zero l
        show SOk false P (if n + m ≤ c then _ else _) h _
        by_cases hle : n + m ≤ c
        · rw [if_pos hle]
          refine SOk.bind (newZ ?_)
          have hf := hfit hle
          cases a with
          | none =>
            exact SOk.bind (SOk.pure (VOk.pure (.t (.l (.sl none (n + m) c))) rfl hf))
          | some ad =>
            obtain ⟨b, o, s⟩ := ad
            obtain ⟨hs, hf⟩ := hf
            simp at hs
            subst hs
            dsimp only
            rw [Addr.add_lit]
            refine SOk.bind ?_
            rcases wrH_of hf with ⟨h0, k⟩ | ⟨e', cs, r, hl, k⟩
            · rw [h0]
              exact SOk.pure (VOk.pure (.t (.l (.sl _ (n + m) c))) rfl k)
            · exact sok_storeCells _ _ cs _ 0 hone r (by simpa using hl) (VOk.pure (.t (.l (.sl _ (n + m) c))) rfl k)
        · rw [if_neg hle]
          obtain ⟨old, hold, hk⟩ := hgrow (by omega)
          refine SOk.bind (hT.sok_info hi fun j _ _ _ => ?_)
          rw [if_neg (by rw [i64max]; omega)]
          refine SOk.bind (hT.sok_info hi fun j _ _ hjb => ?_)
          have hcap := nextcap_le (need := n + m) (c := c) (by omega)
          have hcap2 : Builtin.nextslicecap (n + m) c * j.bytes ≤ 2 ^ 48 := by
            rw [hjb]
            have := Nat.mul_le_mul hcap hby
            omega
          rw [if_neg (by omega)]
          refine SOk.bind (sok_choose fun nc hnc => ?_)
          have hnc' : n + m ≤ nc := by
            rcases hnc with ⟨t, rfl⟩ | ⟨hf, _⟩
            · simp only [Question.cut]; omega
            · cases hf
          refine SOk.bind (hT.sok_info hi fun j _ _ _ => SOk.bind (sok_askRoom ?_))
          refine SOk.bind (sok_firstCells hold (fun h0 => by rw [hn1 h0]; simp) ?_)
          refine SOk.bind (newZ ?_)
          refine SOk.bind (hT.sok_zero hi ?_)
          rw [TI.zero_cells hw, zeroCells_eq _ _ (by simp; omega)]
          have happ : (⟨old⟩ : Array Value) ++ ⟨repl (i.leaves.map Leaf.zero) m⟩ ++ ⟨repl (i.leaves.map Leaf.zero) (nc - (n + m))⟩ = ⟨old ++ repl (i.leaves.map Leaf.zero) m ++ repl (i.leaves.map Leaf.zero) (nc - (n + m))⟩ := by
            apply Array.toList_inj.1; simp
          rw [happ]
          exact SOk.bind (sok_newRow (VOk.pure (.t (.l (.sl _ (n + m) nc))) rfl (hk nc hnc')))
    · exact hd.elim
  · exact hd.elim
end
end Go.Proofs.Ytjmhahjmbmiepaa.D
