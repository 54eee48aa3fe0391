/- Slicing, indexing, append, copy, conversions. -/
import Derived.Test.YtjmhahjmbmiepaaDenF
namespace Go.Proofs.Ytjmhahjmbmiepaa.D
open Go

section
variable {xf : Bool} {P : Program} {h : Heap} {T : Types}

def CellsAt (h : Heap) (a : Option Addr) (vs : List Value) (n : Nat) : Prop := vs.length = n ∧ match a with
  | none => True
  | some ad => ad.spot = none ∧ ∀ j v, vs[j]? = some v → cellAt h ad.block (ad.off + j) = some v

theorem sok_firstCells {a : Option Addr} {vs : List Value} {n m c size : Nat} {K : Array Value → Heap → Prop} (hc : CellsAt h a vs (m * size)) (hnil : a = none → m * size = 0) (k : K ⟨vs⟩ h) :
    SOk xf P (Builtin.firstCells size m (.slice a n c)) h K := by
  unfold Builtin.firstCells
  cases a with
  | none =>
    have : vs = [] := List.eq_nil_of_length_eq_zero (hc.1.trans (hnil rfl))
    subst this
    exact SOk.pure k
  | some ad =>
    obtain ⟨b, o, s⟩ := ad
    obtain ⟨hl, hs, hv⟩ := hc
    simp at hs
    subst hs
    exact sok_loadCells hl hv k

/-- 'append(s, x...)': what came in, where it may go. -/
def appendH (h : Heap) (e : TypeId) (sz : Nat) (zs : List Value) (a : Option Addr) (n c : Nat) (a2 : Option Addr) (m : Nat) (K : Option Addr → Nat → Nat → Heap → Prop) : Prop :=
  n + m ≤ 1073741824 ∧ (a2 = none → m = 0) ∧ (a = none → n = 0) ∧ ∃ news : List Value, CellsAt h a2 news (m * sz) ∧ (∀ v ∈ news, oneV v = true) ∧
    (n + m ≤ c → match a with
      | none => K a (n + m) c h
      | some ad => ad.spot = none ∧ wrH h ad.block (ad.off + n * sz) news fun h' => K a (n + m) c h') ∧
    (c < n + m → ∃ old : List Value, CellsAt h a old (n * sz) ∧ ∀ nc, n + m ≤ nc → K (some ⟨h.size, 0, none⟩) (n + m) nc (newRowH h e (old ++ news ++ repl zs (nc - (n + m)))))

def denAppend (T : Types) (t : TypeId) (x y : LV) (h : Heap) (K : KS) : Prop := match look T t with
  | some ⟨.slice e, _, _⟩ => (match look T e with
    | some i => bif i.wf && Nat.ble 1 i.leaves.length && Nat.ble i.bytes 4096 && Nat.ble 1 i.bytes then
        withS x fun a n c => withS y fun a2 m _ => appendH h e i.leaves.length (i.leaves.map Leaf.zero) a n c a2 m fun a' n' c' h' => K (.t (.l (.sl a' n' c'))) h' else False
    | none => False)
  | _ => False

theorem growBy_le (n : Nat) : ∀ (r c : Nat), c < n → 256 ≤ c → Builtin.growBy n r c ≤ 2 * n + 192
  | 0, c, h1, _ => by simp [Builtin.growBy]; omega
  | r + 1, c, h1, h2 => by
    unfold Builtin.growBy
    rw [if_neg (by omega)]
    by_cases hc : c + (c + 768) / 4 < n
    · exact growBy_le n r _ hc (by omega)
    · cases r with
      | zero => simp [Builtin.growBy]; omega
      | succ r => unfold Builtin.growBy; rw [if_pos (by omega)]; omega
theorem nextcap_le {need c : Nat} (hc : c < need) : Builtin.nextslicecap need c ≤ 2 * need + 192 := by
  unfold Builtin.nextslicecap
  split
  · omega
  · split
    · omega
    · exact growBy_le _ _ _ hc (by omega)

theorem sok_choose {q : Question} {K : Nat → Heap → Prop} (k : ∀ n, (∃ t, n = q.cut t) ∨ (q.forced = true ∧ n = 0) → K n h) : SOk false P (choose q) h K := by
  intro w hw
  subst hw
  cases hf : q.forced with
  | true => exact ⟨0, w, by simp [choose, Sem.run, hf], Same.refl w, (fun hx => by cases hx), k 0 (.inr ⟨hf, rfl⟩)⟩
  | false => exact ⟨q.cut (w.tape w.drawn q), { w with drawn := w.drawn + 1 }, by simp [choose, Sem.run, hf], ⟨rfl, rfl, rfl⟩, (fun hx => by cases hx), k _ (.inl ⟨_, rfl⟩)⟩

theorem zeroCells_eq (zs : List Value) (n : Nat) (hz : 0 < zs.length) : Builtin.zeroCells ⟨zs⟩ n = ⟨repl zs n⟩ := by
  unfold Builtin.zeroCells
  exact zeros_array zs n hz

theorem denAppend_sound (hT : TOk P T) {t ty : TypeId} {x y : LV} {K : KS} (hd : denAppend T t x y h K) : VOk false P (Builtin.append_ #[t, t] ty #[x.val, y.val]) h K := by
  unfold denAppend at hd
  split at hd
  · rename_i e _ _ ht
    split at hd
    · rename_i i hi
      cases hc : (i.wf && Nat.ble 1 i.leaves.length && Nat.ble i.bytes 4096 && Nat.ble 1 i.bytes) with
      | false => rw [hc] at hd; exact hd.elim
      | true =>
        rw [hc] at hd
        simp only [cond_true] at hd
        simp only [Bool.and_eq_true] at hc
        obtain ⟨⟨⟨hw, hpos⟩, hby⟩, hby1⟩ := hc
        have hpos := Nat.le_of_ble_eq_true hpos
        have hby := Nat.le_of_ble_eq_true hby
        have hby1 := Nat.le_of_ble_eq_true hby1
        obtain ⟨a, n, c, hx, hd⟩ := withS_of hd
        obtain ⟨a2, m, c2, hy, hd⟩ := withS_of hd
        obtain ⟨hmax, hn2, hn1, news, hnews, hone, hfit, hgrow⟩ := hd
        rw [hx, hy]
        unfold Builtin.append_
        have e1 : (#[t, t] : Array TypeId)[0]? = some t := rfl
        have e2 : (#[t, t] : Array TypeId)[1]? = some t := rfl
        have e3 : (#[Value.slice a n c, Value.slice a2 m c2] : Array Value)[0]? = some (.slice a n c) := rfl
        have e4 : (#[Value.slice a n c, Value.slice a2 m c2] : Array Value)[1]? = some (.slice a2 m c2) := rfl
        simp only [e1, e2, e3, e4]
        refine SOk.bind (hT.sok_under ht fun d hdd => ?_)
        rw [strip_slice hdd]
        refine SOk.bind (hT.sok_size hi ?_)
        refine SOk.bind (hT.sok_under ht fun d hdd => ?_)
        rw [strip_slice hdd]
        refine SOk.bind (SOk.pure ?_)
        simp only [Bool.false_eq_true, if_false, Bool.not_false, if_true]
        refine SOk.bind (SOk.pure ?_)
        by_cases hle : n + m ≤ c
        · rw [if_pos hle]
          refine SOk.bind (sok_firstCells hnews (fun h0 => by rw [hn2 h0]; simp) ?_)
          have hf := hfit hle
          cases a with
          | none =>
            exact SOk.bind (SOk.pure (VOk.pure (.t (.l (.sl none (n + m) c))) rfl hf))
          | some ad =>
            obtain ⟨b, o, s⟩ := ad
            obtain ⟨hs, hf⟩ := hf
            simp at hs
            subst hs
            dsimp only
            rw [Addr.add_lit]
            refine SOk.bind ?_
            rcases wrH_of hf with ⟨h0, k⟩ | ⟨e', cs, r, hl, k⟩
            · rw [h0]
              exact SOk.pure (VOk.pure (.t (.l (.sl _ (n + m) c))) rfl k)
            · exact sok_storeCells _ _ cs _ 0 hone r (by simpa using hl) (VOk.pure (.t (.l (.sl _ (n + m) c))) rfl k)
        · rw [if_neg hle]
          obtain ⟨old, hold, hk⟩ := hgrow (by omega)
          refine SOk.bind (hT.sok_info hi fun j _ _ _ => ?_)
          rw [if_neg (by rw [i64max]; omega)]
          refine SOk.bind (hT.sok_info hi fun j _ _ hjb => ?_)
          have hcap := nextcap_le (need := n + m) (c := c) (by omega)
          have hcap2 : Builtin.nextslicecap (n + m) c * j.bytes ≤ 2 ^ 48 := by
            rw [hjb]
            have := Nat.mul_le_mul hcap hby
            omega
          rw [if_neg (by omega)]
          refine SOk.bind (sok_choose fun nc hnc => ?_)
          have hnc' : n + m ≤ nc := by
            rcases hnc with ⟨t, rfl⟩ | ⟨hf, _⟩
            · simp only [Question.cut]; omega
            · cases hf
          refine SOk.bind (hT.sok_info hi fun j _ _ _ => SOk.bind (sok_askRoom ?_))
          refine SOk.bind (sok_firstCells hold (fun h0 => by rw [hn1 h0]; simp) ?_)
          refine SOk.bind (sok_firstCells hnews (fun h0 => by rw [hn2 h0]; simp) ?_)
          refine SOk.bind (hT.sok_zero hi ?_)
          rw [TI.zero_cells hw, zeroCells_eq _ _ (by simp; omega)]
          have happ : (⟨old⟩ : Array Value) ++ ⟨news⟩ ++ ⟨repl (i.leaves.map Leaf.zero) (nc - (n + m))⟩ = ⟨old ++ news ++ repl (i.leaves.map Leaf.zero) (nc - (n + m))⟩ := by
            apply Array.toList_inj.1; simp
          rw [happ]
          exact SOk.bind (sok_newRow (VOk.pure (.t (.l (.sl _ (n + m) nc))) rfl (hk nc hnc')))
    · exact hd.elim
  · exact hd.elim

/-! ### copy, len, slicing, indexing, converting -/

def copyH (h : Heap) (sz : Nat) (a : Option Addr) (n : Nat) (a2 : Option Addr) (m : Nat) (K : Nat → Heap → Prop) : Prop :=
  (a2 = none → m = 0) ∧ ∃ news : List Value, CellsAt h a2 news (min m n * sz) ∧ (∀ v ∈ news, oneV v = true) ∧ match a with
    | none => K (min m n) h
    | some ad => ad.spot = none ∧ wrH h ad.block ad.off news fun h' => K (min m n) h'
def denCopy (T : Types) (t : TypeId) (x y : LV) (h : Heap) (K : KS) : Prop := match look T t with
  | some ⟨.slice e, _, _⟩ => (match look T e with
    | some i => withS x fun a n _ => withS y fun a2 m _ => copyH h i.leaves.length a n a2 m fun k h' => K (.t (.l (.int .i64 (k : Int)))) h'
    | none => False)
  | _ => False
theorem denCopy_sound (hT : TOk P T) {t ty t2 : TypeId} {x y : LV} {K : KS} (hd : denCopy T t x y h K) : VOk false P (Builtin.copy_ #[t, t2] ty #[x.val, y.val]) h K := by
  unfold denCopy at hd
  split at hd
  · rename_i e _ _ ht
    split at hd
    · rename_i i hi
      obtain ⟨a, n, c, hx, hd⟩ := withS_of hd
      obtain ⟨a2, m, c2, hy, hd⟩ := withS_of hd
      obtain ⟨hn2, news, hnews, hone, hd⟩ := hd
      rw [hx, hy]
      unfold Builtin.copy_
      have e1 : (#[t, t2] : Array TypeId)[0]? = some t := rfl
      have e3 : (#[Value.slice a n c, Value.slice a2 m c2] : Array Value)[0]? = some (.slice a n c) := rfl
      have e4 : (#[Value.slice a n c, Value.slice a2 m c2] : Array Value)[1]? = some (.slice a2 m c2) := rfl
      simp only [e1, e3, e4]
      refine SOk.bind (hT.sok_under ht fun d hdd => ?_)
      rw [strip_slice hdd]
      refine SOk.bind (SOk.pure ?_)
      refine SOk.bind (hT.sok_size hi ?_)
      refine SOk.bind (sok_firstCells (n := m) (c := c2) (m := min m n) hnews (fun h0 => by rw [hn2 h0]; simp) ?_)
      cases a with
      | none => exact SOk.bind (SOk.pure (VOk.pure (.t (.l (.int .i64 _))) rfl hd))
      | some ad =>
        obtain ⟨b, o, s⟩ := ad
        obtain ⟨hs, hf⟩ := hd
        simp at hs
        subst hs
        refine SOk.bind ?_
        rcases wrH_of hf with ⟨h0, k⟩ | ⟨e', cs, r, hl, k⟩
        · rw [h0]
          exact SOk.pure (VOk.pure (.t (.l (.int .i64 _))) rfl k)
        · exact sok_storeCells _ _ cs _ 0 hone r (by simpa using hl) (VOk.pure (.t (.l (.int .i64 _))) rfl k)
    · exact hd.elim
  · exact hd.elim

def denLen (T : Types) (t : TypeId) (x : LV) (K : LV → Prop) : Prop := match look T t with
  | some ⟨.slice _, _, _⟩ => withS x fun _ n _ => K (.int .i64 (n : Int))
  | some ⟨.str, _, _⟩ => (match x with | .str s => K (.int .i64 (s.size : Int)) | _ => False)
  | _ => False
theorem denLen_sound (hT : TOk P T) {t ty : TypeId} {x : LV} {K : KS} (hd : denLen T t x fun v => K (.t (.l v)) h) : VOk xf P (Builtin.len_ #[t] ty #[x.val]) h K := by
  unfold denLen at hd
  have e1 : (#[t] : Array TypeId)[0]? = some t := rfl
  have e3 : ∀ v : Value, (#[v] : Array Value)[0]? = some v := fun _ => rfl
  unfold Builtin.len_
  simp only [e1, e3]
  split at hd
  · rename_i e _ _ ht
    obtain ⟨a, n, c, hx, hd⟩ := withS_of hd
    refine SOk.bind (hT.sok_under ht fun d hdd => ?_)
    rw [strip_slice hdd, hx]
    exact VOk.pure _ rfl hd
  · rename_i _ _ ht
    split at hd
    · refine SOk.bind (hT.sok_under ht fun d hdd => ?_)
      rw [strip_str hdd]
      exact VOk.pure _ rfl hd
    · exact hd.elim
  · exact hd.elim
def denCap (T : Types) (t : TypeId) (x : LV) (K : LV → Prop) : Prop := match look T t with
  | some ⟨.slice _, _, _⟩ => withS x fun _ _ c => K (.int .i64 (c : Int))
  | _ => False
theorem denCap_sound (hT : TOk P T) {t ty : TypeId} {x : LV} {K : KS} (hd : denCap T t x fun v => K (.t (.l v)) h) : VOk xf P (Builtin.cap_ #[t] ty #[x.val]) h K := by
  unfold denCap at hd
  have e1 : (#[t] : Array TypeId)[0]? = some t := rfl
  have e3 : ∀ v : Value, (#[v] : Array Value)[0]? = some v := fun _ => rfl
  unfold Builtin.cap_
  simp only [e1, e3]
  split at hd
  · rename_i e _ _ ht
    obtain ⟨a, n, c, hx, hd⟩ := withS_of hd
    refine SOk.bind (hT.sok_under ht fun d hdd => ?_)
    rw [strip_slice hdd, hx]
    exact VOk.pure _ rfl hd
  · exact hd.elim

def minI (x y : Int) : Int := if y < x then y else x
def maxI (x y : Int) : Int := if y > x then y else x
theorem denMin_sound {k k' : IntKind} {x y : Int} {ts : Array TypeId} {ty : TypeId} {K : KS} (hd : K (.t (.l (.int k (minI x y)))) h) : VOk xf P (Builtin.min_ ts ty #[.int k x, .int k' y]) h K := by
  unfold Builtin.min_
  simp only [List.foldlM_cons, List.foldlM_nil]
  exact SOk.bind (SOk.pure (VOk.pure _ rfl hd))

def byteAt (s : ByteArray) (n : Nat) : Int := ((s.data.toList.getD n 0).toNat : Int)
def intsOf : List LV → Option (IntKind × List Int)
  | [] => none
  | [.int k x] => some (k, [x])
  | .int k x :: r => match intsOf r with
    | some (k', xs) => if k = k' then some (k, x :: xs) else none
    | none => none
  | _ => none
def denIndex (T : Types) (t : TypeId) (x : TV) (i : Int) (K : LV → Prop) : Prop := match look T t, x with
  | some ⟨.str, _, _⟩, .l (.str s) => 0 ≤ i ∧ i < (s.size : Int) ∧ K (.int .u8 (byteAt s i.toNat))
  | some ⟨.arr n e, _, _⟩, .agg vs => (match look T e, intsOf vs with
    | some j, some (k, xs) => bif (!j.agg) && Nat.beq j.leaves.length 1 && Nat.beq vs.length n then 0 ≤ i ∧ i < (n : Int) ∧ K (.int k (xs.getD i.toNat 0)) else False
    | _, _ => False)
  | _, _ => False
theorem intsOf_sound : ∀ {vs : List LV} {k : IntKind} {xs : List Int}, intsOf vs = some (k, xs) → vs = xs.map (LV.int k)
  | [], k, xs, h => by cases h
  | [.int k x], k', xs, h => by simp [intsOf] at h; obtain ⟨rfl, rfl⟩ := h; rfl
  | .int k x :: v :: r, k', xs, h => by
    simp only [intsOf] at h
    split at h
    · rename_i k2 ys hk
      split at h
      · rename_i he
        subst he
        simp at h
        obtain ⟨rfl, rfl⟩ := h
        rw [intsOf_sound hk]; rfl
      · cases h
    · cases h
theorem denIndex_sound (hT : TOk P T) {t : TypeId} {x : TV} {k : IntKind} {i : Int} {K : KS} (hd : denIndex T t x i fun v => K (.t (.l v)) h) : VOk xf P (Instr.index t x.val (.int k i)) h K := by
  unfold denIndex at hd
  split at hd
  · rename_i _ _ s ht
    obtain ⟨h0, h1, hd⟩ := hd
    unfold Instr.index
    refine SOk.bind (SOk.pure ?_)
    refine SOk.bind (hT.sok_under ht fun d hdd => ?_)
    rw [strip_str hdd]
    dsimp only [TV.val, LV.val]
    rw [if_pos h0]
    have hlt : i.toNat < s.size := by omega
    have : s[i.toNat]? = some s[i.toNat] := by simp [hlt]
    rw [this]
    refine VOk.pure (.t (.l (.int .u8 _))) ?_ hd
    have e1 : s.data.toList.length = s.size := by show s.data.toList.length = s.data.size; exact Array.length_toList
    have e2 : s.data.toList.getD i.toNat 0 = s[i.toNat] := by
      rw [List.getD_eq_getElem?_getD, List.getElem?_eq_getElem (by omega)]; rfl
    simp only [SV.val, TV.val, LV.val, byteAt, e2]
  · rename_i n e _ _ vs ht
    split at hd
    · rename_i j k' xs hj hxs
      cases hc : ((!j.agg) && Nat.beq j.leaves.length 1 && Nat.beq vs.length n) with
      | false => rw [hc] at hd; exact hd.elim
      | true =>
        rw [hc] at hd
        simp only [cond_true] at hd
        simp only [Bool.and_eq_true, Bool.not_eq_true'] at hc
        obtain ⟨⟨ha, h1⟩, hn⟩ := hc
        have h1 := Nat.eq_of_beq_eq_true h1
        have hn := Nat.eq_of_beq_eq_true hn
        obtain ⟨h0, hi, hd⟩ := hd
        unfold Instr.index
        refine SOk.bind (SOk.pure ?_)
        refine SOk.bind (hT.sok_under ht fun d hdd => ?_)
        rw [strip_arr hdd]
        dsimp only [TV.val]
        rw [if_pos ⟨h0, hi⟩]
        refine SOk.bind (hT.sok_size hj ?_)
        rw [h1, Nat.mul_one]
        refine partOf_sound hT hj ?_
        unfold partOf
        rw [ha]
        simp only [cond_false]
        have he := intsOf_sound hxs
        have hlt : i.toNat < xs.length := by rw [he] at hn; simp at hn; omega
        have : vs[i.toNat]? = some (.int k' (xs.getD i.toNat 0)) := by
          rw [he]; simp [hlt]
        rw [this]
        exact hd
    · exact hd.elim
  · exact hd.elim

def subA (a : Option Addr) (m l s : Nat) : Option Addr := if m = l then a else a.map (·.add (mulS l s))
def denSlice (T : Types) (t : TypeId) (x : LV) (lo hi mx : Option Int) (h : Heap) (K : KS) : Prop := match look T t with
  | some ⟨.str, _, _⟩ => (match x, mx with
    | .str s, none => 0 ≤ lo.getD 0 ∧ lo.getD 0 ≤ hi.getD s.size ∧ hi.getD s.size ≤ (s.size : Int) ∧ K (.t (.l (.str (s.extract (lo.getD 0).toNat (hi.getD s.size).toNat)))) h
    | _, _ => False)
  | some ⟨.slice e, _, _⟩ => (match look T e, mx with
    | some i, none => withS x fun a n c => 0 ≤ lo.getD 0 ∧ lo.getD 0 ≤ hi.getD n ∧ hi.getD n ≤ (c : Int) ∧
        K (.t (.l (.sl (match lo with | none => a | some l => subA a c l.toNat i.leaves.length) ((hi.getD n).toNat - (lo.getD 0).toNat) (c - (lo.getD 0).toNat)))) h
    | _, _ => False)
  | _ => False

theorem sok_bound {k : IntKind} {i : Int} {y : Nat} {code : BoundsCode} {K : Nat → Heap → Prop} (h0 : 0 ≤ i) (h1 : i ≤ y) (k' : K i.toNat h) : SOk xf P (Instr.sliceBound (.int k i) y code) h K := by
  unfold Instr.sliceBound
  refine SOk.bind (SOk.pure ?_)
  dsimp only
  rw [if_pos ⟨h0, h1⟩]
  exact SOk.pure k'

theorem sok_bounds {isS : Bool} {len cap : Nat} {kl kh : IntKind} {lo hi : Option Int} {K : Nat × Nat × Nat → Heap → Prop} (h0 : 0 ≤ lo.getD 0) (h1 : lo.getD 0 ≤ hi.getD len) (h2 : hi.getD len ≤ (cap : Int))
    (k : K ((lo.getD 0).toNat, (hi.getD len).toNat, cap) h) : SOk xf P (Instr.sliceBounds isS len cap (lo.map fun n => .int kl n) (hi.map fun n => .int kh n) none) h K := by
  unfold Instr.sliceBounds
  refine SOk.bind (SOk.pure ?_)
  cases hi with
  | none =>
    simp only [Option.map_none, Option.getD_none] at *
    refine SOk.bind (SOk.pure ?_)
    cases lo with
    | none => exact SOk.bind (SOk.pure (SOk.pure (by simpa using k)))
    | some l =>
      simp only [Option.map_some, Option.getD_some] at *
      exact SOk.bind (sok_bound h0 (by omega) (SOk.pure (by simpa using k)))
  | some hh =>
    simp only [Option.map_some, Option.getD_some] at *
    refine SOk.bind (sok_bound (by omega) h2 ?_)
    cases lo with
    | none => exact SOk.bind (SOk.pure (SOk.pure (by simpa using k)))
    | some l =>
      simp only [Option.map_some, Option.getD_some] at *
      exact SOk.bind (sok_bound h0 (by omega) (SOk.pure (by simpa using k)))

theorem denSlice_sound (hT : TOk P T) {t : TypeId} {x : LV} {lo hi : Option Int} {kl kh : IntKind} {K : KS} (hd : denSlice T t x lo hi none h K) :
    VOk xf P (Instr.sliceAt t x.val (lo.map fun n => .int kl n) (hi.map fun n => .int kh n) none) h K := by
  unfold denSlice at hd
  split at hd
  · rename_i _ _ ht
    split at hd
    · rename_i s _
      obtain ⟨h0, h1, h2, hd⟩ := hd
      unfold Instr.sliceAt
      refine SOk.bind (hT.sok_under ht fun d hdd => ?_)
      rw [strip_str hdd]
      unfold Instr.slice
      refine SOk.bind (hT.sok_under ht fun d hdd => ?_)
      rw [strip_str hdd]
      dsimp only [LV.val]
      simp only [Option.isSome_none, Bool.false_eq_true, if_false]
      exact SOk.bind (sok_bounds h0 h1 h2 (VOk.pure _ rfl hd))
    · exact hd.elim
  · rename_i e _ _ ht
    split at hd
    · rename_i i hi' _
      obtain ⟨a, n, c, hx, h0, h1, h2, hd⟩ := withS_of hd
      rw [hx]
      unfold Instr.sliceAt
      refine SOk.bind (hT.sok_under ht fun d hdd => ?_)
      rw [strip_slice hdd]
      unfold Instr.slice
      refine SOk.bind (hT.sok_under ht fun d hdd => ?_)
      rw [strip_slice hdd]
      dsimp only
      refine SOk.bind (sok_bounds h0 h1 h2 ?_)
      refine SOk.bind (hT.sok_size hi' ?_)
      refine VOk.pure (.t (.l (.sl _ _ _))) ?_ hd
      simp only [SV.val, TV.val, LV.val, Value.slice.injEq, and_self, and_true]
      cases lo with
      | none =>
        simp only [Option.getD_none, Int.toNat_zero, Nat.zero_mul]
        split
        · rfl
        · cases a with
          | none => rfl
          | some a => simp [Addr.add]
      | some l =>
        simp only [Option.getD_some, subA, mulS_eq]
    · exact hd.elim
  · exact hd.elim

/-- Conversions between kinds of numbers; of a text to a type of text; of bytes to a text. -/
def denConv (T : Types) (src dst : TypeId) (x : LV) (h : Heap) (K : LV → Prop) : Prop := match look T src, look T dst with
  | some ⟨.int _, _, _⟩, some ⟨.int k, _, _⟩ => withI x fun _ n => K (.int k (k.wrap n))
  | some ⟨.str, _, _⟩, some ⟨.str, _, _⟩ => (match x with | .str s => K (.str s) | _ => False)
  | some ⟨.slice e, _, _⟩, some ⟨.str, _, _⟩ => (match look T e with
    | some ⟨.int .u8, _, _⟩ => withS x fun a n _ => (a = none → n = 0) ∧ ∃ bs : List UInt8, CellsAt h a (bs.map fun b => .int .u8 (b.toNat : Int)) n ∧ K (.str ⟨⟨bs⟩⟩)
    | _ => False)
  | _, _ => False

theorem sok_bytes (f : Value → ByteArray → Sem (ForInStep ByteArray)) (hf : ∀ (b : UInt8) s, f (.int .u8 (b.toNat : Int)) s = Pure.pure (ForInStep.yield (s.push b))) : ∀ (bs : List UInt8) (s : ByteArray) {K : ByteArray → Heap → Prop},
    K (bs.foldl ByteArray.push s) h → SOk xf P (forIn (bs.map fun b => Value.int .u8 (b.toNat : Int)) s f) h K
  | [], s, K, k => SOk.pure k
  | b :: bs, s, K, k => by
    rw [List.map_cons, List.forIn_cons, hf]
    exact SOk.bind (SOk.pure (sok_bytes f hf bs _ k))

theorem push_bytes : ∀ (bs : List UInt8) (l : List UInt8), bs.foldl ByteArray.push ⟨⟨l⟩⟩ = ⟨⟨l ++ bs⟩⟩
  | [], l => by simp
  | b :: bs, l => by
    rw [List.foldl_cons]
    have : (⟨⟨l⟩⟩ : ByteArray).push b = ⟨⟨l ++ [b]⟩⟩ := by
      simp [ByteArray.push]
    rw [this, push_bytes bs, List.append_assoc]; rfl

theorem denConv_sound (hT : TOk P T) {src dst : TypeId} {x : LV} {K : KS} (hd : denConv T src dst x h fun v => K (.t (.l v)) h) : VOk xf P (convert src dst x.val) h K := by
  unfold denConv at hd
  split at hd
  · rename_i h1 h2
    obtain ⟨kd, n, rfl, hd⟩ := withI_of hd
    unfold convert
    refine SOk.bind (hT.sok_under h1 fun d hdd => SOk.bind (hT.sok_under h2 fun d2 hdd2 => ?_))
    rw [strip_int hdd, strip_int hdd2]
    exact VOk.pure _ rfl hd
  · rename_i h1 h2
    split at hd
    · unfold convert
      refine SOk.bind (hT.sok_under h1 fun d hdd => SOk.bind (hT.sok_under h2 fun d2 hdd2 => ?_))
      rw [strip_str hdd, strip_str hdd2]
      exact VOk.pure _ rfl hd
    · exact hd.elim
  · rename_i e _ _ _ _ h1 h2
    split at hd
    · rename_i _ _ he
      obtain ⟨a, n, c, hx, hn, bs, hc, hd⟩ := withS_of hd
      rw [hx]
      unfold convert
      refine SOk.bind (hT.sok_under h1 fun d hdd => SOk.bind (hT.sok_under h2 fun d2 hdd2 => ?_))
      rw [strip_slice hdd, strip_str hdd2]
      dsimp only
      refine SOk.bind (hT.sok_under he fun d hdd => ?_)
      rw [strip_int hdd]
      dsimp only
      unfold Conv.bytesToString
      cases a with
      | none =>
        have : bs = [] := by
          have := hc.1
          rw [hn rfl] at this
          simpa using this
        subst this
        exact VOk.pure _ rfl hd
      | some ad =>
        obtain ⟨b, o, s⟩ := ad
        obtain ⟨hl, hs, hv⟩ := hc
        simp at hs
        subst hs
        dsimp only
        refine SOk.bind (sok_loadCells hl hv ?_)
        rw [show (⟨bs.map fun b => Value.int .u8 (b.toNat : Int)⟩ : Array Value) = (bs.map fun b => Value.int .u8 (b.toNat : Int)).toArray from rfl, List.forIn_toArray]
        refine SOk.bind (sok_bytes _ ?_ bs ByteArray.empty ?_)
        · intro b s; simp
        · have := push_bytes bs []
          rw [List.nil_append] at this
          rw [show (ByteArray.empty : ByteArray) = ⟨⟨[]⟩⟩ from rfl, this]
          exact VOk.pure _ rfl hd
    · exact hd.elim
  · exact hd.elim
end
end Go.Proofs.Ytjmhahjmbmiepaa.D
