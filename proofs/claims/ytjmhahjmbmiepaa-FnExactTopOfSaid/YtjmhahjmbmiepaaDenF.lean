/- The other operations on memory. -/
import Derived.Test.YtjmhahjmbmiepaaDenE
namespace Go.Proofs.Ytjmhahjmbmiepaa.D
open Go

section
variable {xf : Bool} {P : Program} {h : Heap} {T : Types}

def denLoad (T : Types) (t : TypeId) (x : LV) (h : Heap) (K : KS) : Prop := match look T t with
  | some i => withP x fun b o => ldC h b o 0 i.leaves fun vs => (bif i.agg then K (.t (.agg vs)) h else (match vs with | [v] => K (.t (.l v)) h | _ => False))
  | none => False

theorem sok_asAddr_sure {b o : Nat} {K : Addr → Heap → Prop} (k : K ⟨b, o, none⟩ h) : SOk xf P (Instr.sureAddr (.pointer (some ⟨b, o, none⟩))) h K := SOk.pure k

theorem denLoad_sound (hT : TOk P T) {t : TypeId} {x : LV} {K : KS} (hd : denLoad T t x h K) : VOk xf P (Instr.loadAt t x.val) h K := by
  unfold denLoad at hd
  split at hd
  · rename_i i hi
    obtain ⟨b, o, rfl, hd⟩ := withP_of hd
    obtain ⟨vs, hl, hv, hd⟩ := ldC_of hd
    unfold Instr.loadAt
    refine SOk.bind (sok_asAddr_sure ?_)
    unfold loadVar
    refine SOk.bind (hT.sok_isAgg hi ?_)
    cases ha : i.agg with
    | true =>
      rw [ha] at hd
      simp only [cond_true] at hd
      simp only [if_true]
      refine SOk.bind (hT.sok_size hi ?_)
      refine SOk.bind (sok_loadCells (vs := vs.map LV.val) (by simpa using hl) ?_ ?_)
      · intro j v hj
        rw [List.getElem?_map] at hj
        cases hu : vs[j]? with
        | none => rw [hu] at hj; cases hj
        | some u => rw [hu] at hj; injection hj with hj; subst hj; have := hv j u hu; rwa [Nat.zero_add] at this
      · exact VOk.pure (.t (.agg vs)) rfl hd
    | false =>
      rw [ha] at hd
      simp only [cond_false] at hd
      split at hd
      · rename_i v
        have := hv 0 v rfl
        simp only [Nat.add_zero] at this
        simp only [Bool.false_eq_true, if_false]
        refine sok_load this ?_
        exact ⟨.t (.l v), rfl, hd⟩
      · exact hd.elim
  · exact hd.elim

/-- A store. -/
def denStore (T : Types) (t : TypeId) (x : LV) (v : TV) (h : Heap) (K : Heap → Prop) : Prop := match look T t with
  | some i => bif v.ok && Nat.beq v.cells.length i.leaves.length then withP x fun b o => wrH h b o (v.cells.map LV.val) K else False
  | none => False

theorem all_one {vs : List LV} (hv : vs.all LV.ok = true) : ∀ v ∈ vs.map LV.val, oneV v = true := by
  intro v hm
  obtain ⟨u, hu, rfl⟩ := List.mem_map.1 hm
  exact LV.one (List.all_eq_true.1 hv u hu)
theorem TV.all_ok {v : TV} (hv : v.ok = true) : v.cells.all LV.ok = true := by
  cases v with
  | l v => show (v.ok && true) = true; rw [Bool.and_true]; exact hv
  | agg vs => exact hv

theorem denStore_sound (hT : TOk P T) {t : TypeId} {x : LV} {v : TV} {K : Heap → Prop} (hd : denStore T t x v h K) : SOk false P (Instr.storeAt t x.val v.val) h fun _ h' => K h' := by
  unfold denStore at hd
  split at hd
  · rename_i i hi
    cases hc : (v.ok && Nat.beq v.cells.length i.leaves.length) with
    | false => rw [hc] at hd; exact hd.elim
    | true =>
      rw [hc] at hd
      simp only [cond_true] at hd
      simp only [Bool.and_eq_true] at hc
      obtain ⟨hok, hs⟩ := hc
      have hs := Nat.eq_of_beq_eq_true hs
      obtain ⟨b, o, rfl, hd⟩ := withP_of hd
      unfold Instr.storeAt
      refine SOk.bind (sok_asAddr_sure ?_)
      unfold storeVar
      refine SOk.bind (hT.sok_size hi ?_)
      rw [TV.val_cells hok]
      rw [if_neg (by simp [hs])]
      rcases wrH_of hd with ⟨hn, k⟩ | ⟨e, c, r, hl, k⟩
      · rw [hn]
        exact SOk.pure k
      · refine sok_storeCells _ _ c o 0 (all_one (TV.all_ok hok)) r (by simpa using hl) k
  · exact hd.elim

def denAlloc (T : Types) (t : TypeId) (h : Heap) (K : KS) : Prop := match look T t with
  | some i => bif i.wf then K (.t (.l (.ptrB h.size 0))) (newRowH h t (i.leaves.map Leaf.zero)) else False
  | none => False
theorem denAlloc_sound (hT : TOk P T) {t : TypeId} {K : KS} (hd : denAlloc T t h K) : VOk false P (Instr.alloc t true (.tuple #[])) h K := by
  unfold denAlloc at hd
  split at hd
  · rename_i i hi
    cases hw : i.wf with
    | false => rw [hw] at hd; exact hd.elim
    | true =>
      rw [hw] at hd
      unfold Instr.alloc
      refine SOk.bind (hT.sok_zero hi ?_)
      refine SOk.bind ?_
      unfold newVar
      rw [TI.zero_cells hw]
      refine sok_newRow ?_
      exact VOk.pure _ rfl hd
  · exact hd.elim

def denBox (t : TypeId) (v : TV) (h : Heap) (K : KS) : Prop := bif v.ok then K (.t (.l (.ptrB h.size 0))) (newRowH h t (v.cells.map LV.val)) else False
theorem denBox_sound {t : TypeId} {v : TV} {K : KS} (hd : denBox t v h K) : VOk false P (Instr.box t v.val) h K := by
  unfold denBox at hd
  cases hw : v.ok with
  | false => rw [hw] at hd; exact hd.elim
  | true =>
    rw [hw] at hd
    unfold Instr.box newVar
    refine SOk.bind ?_
    rw [TV.val_cells hw]
    exact sok_newRow (VOk.pure _ rfl hd)

def denMake (T : Types) (t : TypeId) (l c : Int) (h : Heap) (K : KS) : Prop := match look T t with
  | some ⟨.slice e, _, _⟩ => (match look T e with
    | some i => bif i.wf && Nat.ble 1 i.leaves.length then
        0 ≤ l ∧ l ≤ c ∧ c ≤ 1099511627776 ∧ (i.bytes : Int) * c ≤ 281474976710656 ∧ K (.t (.l (.slB h.size 0 l.toNat c.toNat))) (newRowH h e (repl (i.leaves.map Leaf.zero) c.toNat)) else False
    | none => False)
  | _ => False

theorem wrap_i64 {n : Int} (h0 : -9223372036854775808 ≤ n) (h1 : n < 9223372036854775808) : IntKind.i64.wrap n = n := by
  simp only [IntKind.wrap, IntKind.bits, IntKind.signed, Bool.true_and]
  split
  · rename_i hh
    simp at hh
    omega
  · rename_i hh
    simp at hh
    omega

theorem sok_mark {m : Mark} {K : Unit → Heap → Prop} (k : K () h) : SOk xf P (mark m) h K := by
  intro w hw
  exact ⟨(), w, by simp [mark, Sem.run], Same.refl w, fun _ => rfl, by rw [hw]; exact k⟩
theorem sok_askRoom {n : Nat} {K : Unit → Heap → Prop} (k : K () h) : SOk xf P (askRoom n) h K := by
  unfold askRoom
  split
  · exact sok_mark k
  · exact SOk.pure k

theorem denMake_sound (hT : TOk P T) {t : TypeId} {kl kc : IntKind} {l c : Int} {K : KS} (hd : denMake T t l c h K) : VOk false P (Instr.makeSlice t (.int kl l) (.int kc c)) h K := by
  unfold denMake at hd
  split at hd
  · rename_i e _ _ hl
    split at hd
    · rename_i i hi
      cases hc : (i.wf && Nat.ble 1 i.leaves.length) with
      | false => rw [hc] at hd; exact hd.elim
      | true =>
        rw [hc] at hd
        simp only [cond_true] at hd
        simp only [Bool.and_eq_true] at hc
        obtain ⟨hw, hpos⟩ := hc
        have hpos := Nat.le_of_ble_eq_true hpos
        obtain ⟨h0, h1, h2, h3, k⟩ := hd
        unfold Instr.makeSlice
        refine SOk.bind (hT.sok_under hl fun d hdd => ?_)
        rw [strip_slice hdd]
        refine SOk.bind (SOk.bind (SOk.pure (SOk.pure ?_)))
        refine SOk.bind (SOk.bind (SOk.pure (SOk.pure ?_)))
        refine SOk.bind (hT.sok_info hi fun j _ _ hb => ?_)
        simp only [wrap_i64 (n := l) (by omega) (by omega), wrap_i64 (n := c) (by omega) (by omega), hb]
        rw [if_neg (by simp; omega)]
        refine SOk.bind (sok_askRoom ?_)
        refine SOk.bind (hT.sok_size hi ?_)
        have hz := zeros_array (i.leaves.map Leaf.zero) c.toNat (by simp; omega)
        simp only [List.length_map] at hz
        by_cases h0 : c.toNat * i.leaves.length = 0
        · simp only [h0, if_true]
          refine SOk.bind (SOk.pure ?_)
          have hlen : c.toNat = 0 := by
            rcases Nat.mul_eq_zero.1 h0 with h | h
            · exact h
            · omega
          have he : repl (i.leaves.map Leaf.zero) c.toNat = [] := by rw [hlen, repl_eq]; simp
          rw [he] at k
          simp only [Array.range_zero', Array.map_empty]
          exact SOk.bind (sok_newRow (VOk.pure _ rfl k))
        · simp only [h0, if_false]
          refine SOk.bind (hT.sok_zero hi (SOk.bind (SOk.pure ?_)))
          rw [TI.zero_cells hw]
          simp only [hz]
          exact SOk.bind (sok_newRow (VOk.pure _ rfl k))
    · exact hd.elim
  · exact hd.elim

/-- A field's place and width. -/
def fieldOf (T : Types) (t : TypeId) (f : Nat) : Option (Nat × TI) := match look T t with
  | some ⟨.struct fs, _, _⟩ => (match fs[f]? with
    | some (off, ft) => (match look T ft with
      | some i => some (off, i)
      | none => none)
    | none => none)
  | _ => none
def denFieldAddr (T : Types) (t : TypeId) (x : LV) (f : Nat) (h : Heap) (K : KS) : Prop := match fieldOf T t f with
  | some (off, i) => bif Nat.ble 1 i.leaves.length then withP x fun b o => K (.t (.l (.ptrB b (o + off)))) h else False
  | none => False

theorem fieldOf_some {t : TypeId} {f off : Nat} {i : TI} (hf : fieldOf T t f = some (off, i)) :
    ∃ fs ls bs ft, look T t = some ⟨.struct fs, ls, bs⟩ ∧ fs[f]? = some (off, ft) ∧ look T ft = some i := by
  unfold fieldOf at hf
  split at hf
  · rename_i fs ls bs ht
    split at hf
    · rename_i off' ft hfs
      split at hf
      · rename_i j hj
        simp only [Option.some.injEq, Prod.mk.injEq] at hf
        obtain ⟨rfl, rfl⟩ := hf
        exact ⟨fs, ls, bs, ft, ht, hfs, hj⟩
      · cases hf
    · cases hf
  · cases hf

theorem struct_field {d : TypeDesc} {fs : List (Nat × TypeId)} {f off : Nat} {ft : TypeId} (hd : strip d = .struct fs) (hf : fs[f]? = some (off, ft)) :
    ∃ gs g, d = .struct gs ∧ gs[f]? = some g ∧ g.offset = off ∧ g.type = ft := by
  obtain ⟨gs, rfl, hg⟩ := strip_struct hd
  rw [← hg, List.getElem?_map] at hf
  rw [Array.getElem?_toList] at hf
  cases hgf : gs[f]? with
  | none => rw [hgf] at hf; cases hf
  | some g =>
    rw [hgf] at hf
    simp at hf
    exact ⟨gs, g, rfl, hgf, hf.1, hf.2⟩

theorem denFieldAddr_sound (hT : TOk P T) {t : TypeId} {x : LV} {f : Nat} {K : KS} (hd : denFieldAddr T t x f h K) : VOk xf P (Instr.fieldAt t x.val f) h K := by
  unfold denFieldAddr at hd
  split at hd
  · rename_i off i hf
    obtain ⟨fs, ls, bs, ft, ht, hfs, hi⟩ := fieldOf_some hf
    cases hc : Nat.ble 1 i.leaves.length with
    | false => rw [hc] at hd; exact hd.elim
    | true =>
      rw [hc] at hd
      have hpos := Nat.le_of_ble_eq_true hc
      obtain ⟨b, o, rfl, k⟩ := withP_of hd
      unfold Instr.fieldAt
      refine SOk.bind (hT.sok_under ht fun d hdd => ?_)
      obtain ⟨gs, g, rfl, hg, rfl, rfl⟩ := struct_field hdd hfs
      simp only [hg]
      refine SOk.bind (sok_asAddr_sure ?_)
      refine SOk.bind ?_
      unfold fieldPlace
      refine SOk.bind (hT.sok_size hi ?_)
      rw [if_neg (by omega)]
      rw [Addr.add_lit]
      exact SOk.pure (VOk.pure _ rfl k)
  · exact hd.elim

/-- A part of a value. -/
def partOf (i : TI) (vs : List LV) (off : Nat) (K : TV → Prop) : Prop :=
  bif i.agg then K (.agg ((vs.drop off).take i.leaves.length)) else (match vs[off]? with | some v => K (.l v) | none => False)
theorem partOf_sound (hT : TOk P T) {t : TypeId} {i : TI} (hi : look T t = some i) {vs : List LV} {off : Nat} {K : KS} (hd : partOf i vs off fun v => K (.t v) h) :
    VOk xf P (part t ⟨vs.map LV.val⟩ off) h K := by
  unfold partOf at hd
  unfold part
  refine SOk.bind (hT.sok_isAgg hi ?_)
  cases ha : i.agg with
  | true =>
    rw [ha] at hd
    simp only [if_true]
    refine SOk.bind (hT.sok_size hi ?_)
    refine VOk.pure _ ?_ hd
    simp [SV.val, TV.val, List.map_take, List.map_drop]
  | false =>
    rw [ha] at hd
    simp only [cond_false] at hd
    simp only [Bool.false_eq_true, if_false]
    split at hd
    · rename_i v hv
      have : (⟨vs.map LV.val⟩ : Array Value)[off]? = some v.val := by simp [hv]
      simp only [this]
      exact VOk.pure _ rfl hd
    · exact hd.elim

def denField (T : Types) (t : TypeId) (x : TV) (f : Nat) (h : Heap) (K : KS) : Prop := match fieldOf T t f, x with
  | some (off, i), .agg vs => partOf i vs off fun v => K (.t v) h
  | _, _ => False
theorem denField_sound (hT : TOk P T) {t : TypeId} {x : TV} {f : Nat} {K : KS} (hd : denField T t x f h K) : VOk xf P (Instr.field t x.val f) h K := by
  unfold denField at hd
  split at hd
  · rename_i off i vs hf
    obtain ⟨fs, ls, bs, ft, ht, hfs, hi⟩ := fieldOf_some hf
    unfold Instr.field
    refine SOk.bind (hT.sok_under ht fun d hdd => ?_)
    obtain ⟨gs, g, rfl, hg, rfl, rfl⟩ := struct_field hdd hfs
    simp only [hg]
    refine SOk.bind (SOk.pure ?_)
    exact partOf_sound hT hi hd
  · exact hd.elim

/-- Where a slice begins. -/
def baseOf (x : LV) (k : Nat → Nat → Nat → Nat → Prop) : Prop := match x with
  | .sl a n c => ∃ b o, a = some ⟨b, o, none⟩ ∧ k b o n c
  | .slB b o n c => k b o n c
  | _ => False
theorem baseOf_of {x : LV} {k : Nat → Nat → Nat → Nat → Prop} (hd : baseOf x k) : ∃ b o n c, x.val = .slice (some ⟨b, o, none⟩) n c ∧ k b o n c := by
  unfold baseOf at hd
  split at hd
  · obtain ⟨b, o, rfl, hd⟩ := hd
    exact ⟨b, o, _, _, rfl, hd⟩
  · exact ⟨_, _, _, _, rfl, hd⟩
  · exact hd.elim

def denIndexAddr (T : Types) (t : TypeId) (x : LV) (i : Int) (h : Heap) (K : KS) : Prop := match look T t with
  | some ⟨.slice e, _, _⟩ => (match look T e with
    | some j => baseOf x fun b o n _ => 0 ≤ i ∧ i < (n : Int) ∧ K (.t (.l (.ptrB b (o + mulS i.toNat j.leaves.length)))) h
    | none => False)
  | some ⟨.arr n e, _, _⟩ => (match look T e with
    | some j => withP x fun b o => 0 ≤ i ∧ i < (n : Int) ∧ K (.t (.l (.ptrB b (o + mulS i.toNat j.leaves.length)))) h
    | none => False)
  | _ => False
theorem denIndexAddr_sound (hT : TOk P T) {t : TypeId} {x : LV} {k : IntKind} {i : Int} {K : KS} (hd : denIndexAddr T t x i h K) : VOk xf P (Instr.indexAt t x.val (.int k i)) h K := by
  unfold denIndexAddr at hd
  split at hd
  · rename_i e _ _ ht
    split at hd
    · rename_i j hj
      obtain ⟨b, o, n, c, hx, h0, h1, hd⟩ := baseOf_of hd
      rw [hx]
      unfold Instr.indexAt
      refine SOk.bind (SOk.pure ?_)
      refine SOk.bind (hT.sok_under ht fun d hdd => ?_)
      rw [strip_slice hdd]
      refine SOk.bind (SOk.pure ?_)
      refine SOk.bind (hT.sok_under ht fun d hdd => ?_)
      rw [strip_slice hdd]
      dsimp only
      rw [if_pos ⟨h0, h1⟩]
      refine SOk.bind (hT.sok_size hj ?_)
      rw [Addr.add_lit]
      rw [mulS_eq] at hd
      exact VOk.pure _ rfl hd
    · exact hd.elim
  · rename_i n e _ _ ht
    split at hd
    · rename_i j hj
      obtain ⟨b, o, rfl, h0, h1, hd⟩ := withP_of hd
      unfold Instr.indexAt
      refine SOk.bind (SOk.pure ?_)
      refine SOk.bind (hT.sok_under ht fun d hdd => ?_)
      rw [strip_arr hdd]
      refine SOk.bind (SOk.pure (SOk.bind (SOk.pure ?_)))
      refine SOk.bind (hT.sok_under ht fun d hdd => ?_)
      rw [strip_arr hdd]
      dsimp only
      rw [if_pos ⟨h0, h1⟩]
      refine SOk.bind (hT.sok_size hj ?_)
      rw [Addr.add_lit]
      rw [mulS_eq] at hd
      exact VOk.pure _ rfl hd
    · exact hd.elim
  · exact hd.elim
end
end Go.Proofs.Ytjmhahjmbmiepaa.D
