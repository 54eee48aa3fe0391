/- New memory; parts of values. -/
import Derived.Test.YtjmhahjmbmiepaaDenD
namespace Go.Proofs.Ytjmhahjmbmiepaa.D
open Go

def Leaf.zeroL : Leaf → LV
  | .int k => .int k 0 | .bool => .lit false | .str => .str .empty | .slice => .sl none 0 0 | .ptr => .ptr none | .func => .any .nilFunc | .iface => .any .nilIface | .ptrN => .ptr none
theorem Leaf.zeroL_val (l : Leaf) : l.zeroL.val = l.zero := by cases l <;> rfl
theorem Leaf.zero_one (l : Leaf) : l.zero.cells = #[l.zero] := by cases l <;> rfl

def TI.wf (i : TI) : Bool := i.agg || Nat.beq i.leaves.length 1
theorem TI.zero_cells {i : TI} (hw : i.wf = true) : i.zero.cells = ⟨i.leaves.map Leaf.zero⟩ := by
  unfold TI.zero
  cases ha : i.agg with
  | true => rfl
  | false =>
    unfold TI.wf at hw
    rw [ha] at hw
    have hl : i.leaves.length = 1 := Nat.eq_of_beq_eq_true (by simpa using hw)
    cases hls : i.leaves with
    | nil => rw [hls] at hl; cases hl
    | cons l r =>
      cases r with
      | nil => exact Leaf.zero_one l
      | cons _ _ => rw [hls] at hl; simp at hl

def repl (zs : List Value) (n : Nat) : List Value := match zs with
  | [z] => List.replicate n z
  | zs => (List.replicate n zs).flatten
theorem repl_eq (zs : List Value) (n : Nat) : repl zs n = (List.replicate n zs).flatten := by
  unfold repl
  split
  · induction n with
    | zero => rfl
    | succ n ih => rw [List.replicate_succ, List.replicate_succ, List.flatten_cons, ← ih]; rfl
  · rfl

theorem zeros_list (zs : List Value) (hz : 0 < zs.length) : ∀ n, (List.range (n * zs.length)).map (fun j => (zs[j % zs.length]?).getD default) = (List.replicate n zs).flatten
  | 0 => by simp
  | n + 1 => by
    rw [Nat.succ_mul, List.range_add, List.map_append, zeros_list zs hz n, List.replicate_succ', List.flatten_append]
    congr 1
    simp only [List.flatten_cons, List.flatten_nil, List.append_nil, List.map_map]
    apply List.ext_getElem
    · simp
    · intro j h1 h2
      simp at h1
      simp [Nat.mod_eq_of_lt h1, h1]

theorem zeros_array (zs : List Value) (n : Nat) (hz : 0 < zs.length) :
    (Array.range (n * zs.length)).map (fun j => (⟨zs⟩ : Array Value)[j % (⟨zs⟩ : Array Value).size]!) = ⟨repl zs n⟩ := by
  apply Array.toList_inj.1
  rw [repl_eq, ← zeros_list zs hz n]
  simp only [Array.toList_map, Array.toList_range]
  apply List.map_congr_left
  intro j _
  simp [Array.getElem!_eq_getD]

section
variable {xf : Bool} {P : Program} {h : Heap}

theorem sok_newRow {e : TypeId} {cs : List Value} {K : Addr → Heap → Prop} (k : K ⟨h.size, 0, none⟩ (newRowH h e cs)) : SOk false P (newRow e ⟨cs⟩) h K := by
  intro w hw
  subst hw
  exact ⟨⟨w.heap.size, 0, none⟩, { w with heap := w.heap.push (.cells ⟨cs⟩ e) }, by simp [newRow, newObj, Sem.run], ⟨rfl, rfl, rfl⟩, (fun hx => by cases hx), k⟩

/-! ### Filling -/

def spl (c : List LV) (o : Nat) (vs : List LV) : List LV := c.take o ++ vs ++ c.drop (o + vs.length)
theorem spl_val (c : List LV) (o : Nat) (vs : List LV) : (spl c o vs).map LV.val = splice (c.map LV.val) o (vs.map LV.val) := by
  simp [spl, splice, List.map_take, List.map_drop]
def fillLV (pl : Nat → Option (Nat × Nat)) (cells : List LV) : List (Nat × TV) → Option (List LV)
  | [] => some cells
  | (i, v) :: r => match pl i with
    | none => none
    | some (off, sz) => bif v.ok && (Nat.beq v.cells.length sz && Nat.ble (off + sz) cells.length) then fillLV pl (spl cells off v.cells) r else none

theorem foldl_splice (off : Nat) : ∀ (vs : List Value) (k : Nat) (cs : List Value), off + k + vs.length ≤ cs.length →
    (vs.zipIdx k).foldl (fun (cs : Array Value) p => cs.setIfInBounds (off + p.2) p.1) ⟨cs⟩ = ⟨splice cs (off + k) vs⟩
  | [], k, cs, _ => by simp [splice_nil]
  | v :: vs, k, cs, hl => by
    simp only [List.length_cons] at hl
    rw [List.zipIdx_cons, List.foldl_cons]
    have : (⟨cs⟩ : Array Value).setIfInBounds (off + k) v = ⟨cs.set (off + k) v⟩ := by
      apply Array.toList_inj.1; simp
    simp only [this]
    rw [foldl_splice off vs (k + 1) (cs.set (off + k) v) (by simp; omega), ← Nat.add_assoc, set_splice (by omega)]

theorem fillLV_sound {pl : Nat → Option (Nat × Nat)} : ∀ (parts : List (Nat × TV)) (cells r : List LV), fillLV pl cells parts = some r →
    Instr.fill pl ⟨cells.map LV.val⟩ (parts.map fun p => (p.1, p.2.val)) = some ⟨r.map LV.val⟩
  | [], cells, r, hf => by
    simp only [fillLV] at hf
    injection hf with hf
    subst hf
    rfl
  | (i, v) :: ps, cells, r, hf => by
    simp only [fillLV] at hf
    simp only [List.map_cons, Instr.fill]
    split at hf
    · cases hf
    · rename_i off sz hpl
      cases hc : (v.ok && (Nat.beq v.cells.length sz && Nat.ble (off + sz) cells.length)) with
      | false => rw [hc] at hf; cases hf
      | true =>
        rw [hc] at hf
        simp only [Bool.and_eq_true] at hc
        obtain ⟨hok, hs, hle⟩ := hc
        have hs := Nat.eq_of_beq_eq_true hs
        have hle := Nat.le_of_ble_eq_true hle
        rw [hpl, TV.val_cells hok]
        simp only [cond_true] at hf
        have hsz : (⟨v.cells.map LV.val⟩ : Array Value).size = sz := by simp [hs]
        dsimp only
        rw [if_neg (by simp [hs]; omega)]
        have ih := fillLV_sound ps _ r hf
        rw [spl_val] at ih
        rw [← ih]
        congr 1
        have := foldl_splice off (v.cells.map LV.val) 0 (cells.map LV.val) (by simp; omega)
        rw [Nat.add_zero] at this
        rw [← this]
        rw [← Array.foldl_toList]
        simp

def rhoT (e : Env) (x : Operand) : Option TV := match rho e x with
  | some (.t v) => some v
  | _ => none
def rhoParts (e : Env) : List (Nat × Operand) → Option (List (Nat × TV))
  | [] => some []
  | (i, x) :: r => match rhoT e x, rhoParts e r with
    | some v, some vs => some ((i, v) :: vs)
    | _, _ => none
def rhoAll (e : Env) : List Operand → Option (List TV)
  | [] => some []
  | x :: r => match rhoT e x, rhoAll e r with
    | some v, some vs => some (v :: vs)
    | _, _ => none
theorem rhoT_sound {e : Env} {a : Act} (ha : Agree e a) {x : Operand} {v : TV} (hr : rhoT e x = some v) : a.eval x = v.val := by
  unfold rhoT at hr
  split at hr
  · rename_i u hu
    injection hr with hr
    subst hr
    exact rho_sound ha hu
  · cases hr
theorem rhoParts_sound {e : Env} {a : Act} (ha : Agree e a) : ∀ (l : List (Nat × Operand)) {vs : List (Nat × TV)}, rhoParts e l = some vs →
    (l.map fun p => (p.1, a.eval p.2)) = vs.map fun p => (p.1, p.2.val)
  | [], vs, hr => by injection hr with hr; subst hr; rfl
  | (i, x) :: r, vs, hr => by
    simp only [rhoParts] at hr
    split at hr
    · rename_i v us h1 h2
      injection hr with hr
      subst hr
      simp [rhoT_sound ha h1, rhoParts_sound ha r h2]
    · cases hr
theorem rhoAll_sound {e : Env} {a : Act} (ha : Agree e a) : ∀ (l : List Operand) {vs : List TV}, rhoAll e l = some vs → l.map a.eval = vs.map TV.val
  | [], vs, hr => by injection hr with hr; subst hr; rfl
  | x :: r, vs, hr => by
    simp only [rhoAll] at hr
    split at hr
    · rename_i v us h1 h2
      injection hr with hr
      subst hr
      simp [rhoT_sound ha h1, rhoAll_sound ha r h2]
    · cases hr

/-! ### The operations -/

def denBuildSlice (T : Types) (t : TypeId) (len : Nat) (parts : Option (List (Nat × TV))) (h : Heap) (K : KS) : Prop :=
  match look T t, parts with
  | some ⟨.slice e, _, _⟩, some ps => (match look T e with
    | some i => bif i.wf && Nat.ble (len * i.leaves.length) 16777216 && Nat.ble 1 i.leaves.length then
        (match fillLV (fun j => some (mulS j i.leaves.length, i.leaves.length)) ((List.replicate len (i.leaves.map Leaf.zeroL)).flatten) ps with
        | some cs => K (.t (.l (.slB h.size 0 len len))) (newRowH h e (cs.map LV.val))
        | none => False) else False
    | none => False)
  | _, _ => False

theorem map_zeroL (ls : List Leaf) : (ls.map Leaf.zeroL).map LV.val = ls.map Leaf.zero := by
  rw [List.map_map]; congr 1; funext l; exact Leaf.zeroL_val l
theorem map_flat (n : Nat) (ls : List Leaf) : ((List.replicate n (ls.map Leaf.zeroL)).flatten).map LV.val = repl (ls.map Leaf.zero) n := by
  rw [repl_eq, List.map_flatten, List.map_replicate, map_zeroL]

theorem denBuildSlice_sound {T : Types} (hT : TOk P T) {t : TypeId} {len : Nat} {ps : Option (List (Nat × TV))} {vs : Array (Nat × Value)} {K : KS}
    (hv : ∀ l, ps = some l → vs = ⟨l.map fun p => (p.1, p.2.val)⟩) (hd : denBuildSlice T t len ps h K) : VOk false P (Instr.buildSlice t len vs) h K := by
  unfold denBuildSlice at hd
  split at hd
  · rename_i e _ _ l hl
    rw [hv l rfl]
    split at hd
    · rename_i i hi
      cases hc : (i.wf && Nat.ble (len * i.leaves.length) 16777216 && Nat.ble 1 i.leaves.length) with
      | false => rw [hc] at hd; exact hd.elim
      | true =>
        rw [hc] at hd
        simp only [Bool.and_eq_true] at hc
        obtain ⟨⟨hw, hle⟩, hpos⟩ := hc
        have hle := Nat.le_of_ble_eq_true hle
        have hpos := Nat.le_of_ble_eq_true hpos
        simp only [cond_true] at hd
        split at hd
        · rename_i cs hcs
          unfold Instr.buildSlice
          refine SOk.bind (hT.sok_under hl fun d hdd => ?_)
          rw [strip_slice hdd]
          refine SOk.bind (hT.sok_size hi ?_)
          have hno : ¬ (len * i.leaves.length > 2 ^ 24) := by omega
          simp only [hno, if_false]
          have hf := fillLV_sound l _ cs hcs
          rw [map_flat] at hf
          have hm : (fun j => some (mulS j i.leaves.length, i.leaves.length)) = (fun j => some (j * i.leaves.length, i.leaves.length)) := by
            funext j; rw [mulS_eq]
          rw [hm] at hf
          by_cases h0 : len * i.leaves.length = 0
          · simp only [h0, if_true]
            refine SOk.bind (SOk.pure (SOk.bind (SOk.pure ?_)))
            have hlen : len = 0 := by
              rcases Nat.mul_eq_zero.1 h0 with h | h
              · exact h
              · omega
            subst hlen
            have he : repl (i.leaves.map Leaf.zero) 0 = [] := by rw [repl_eq]; simp
            rw [he] at hf
            simp only [Array.range_zero', Array.map_empty]
            have : (#[] : Array Value) = ⟨[]⟩ := rfl
            rw [this, hf]
            refine SOk.bind (sok_newRow ?_)
            exact VOk.pure _ rfl hd
          · simp only [h0, if_false]
            refine SOk.bind (hT.sok_zero hi (SOk.bind (SOk.pure ?_)))
            rw [TI.zero_cells hw]
            have hz := zeros_array (i.leaves.map Leaf.zero) len (by simp; omega)
            simp only [List.length_map] at hz
            simp only [hz, hf]
            refine SOk.bind (sok_newRow ?_)
            exact VOk.pure _ rfl hd
        · exact hd.elim
    · exact hd.elim
  · exact hd.elim
end
end Go.Proofs.Ytjmhahjmbmiepaa.D
