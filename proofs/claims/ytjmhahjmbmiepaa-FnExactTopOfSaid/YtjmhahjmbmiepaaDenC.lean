/- Each operation's reading is sound. -/
import Derived.Test.YtjmhahjmbmiepaaDenB
namespace Go.Proofs.Ytjmhahjmbmiepaa.D
open Go

structure Ctx where
  P : Program
  T : Types
  F : List (FuncId × List VT)
  E : List (FuncId × List VT)

structure Ctx.Ok (X : Ctx) : Prop where
  types : TOk X.P X.T
  funcs : ∀ e ∈ X.F, Callable X.P e.1
  mixed : X.P.follows .mixedOrders = true

/-- A function with no body of its own, at the heap: one run. -/
def ExtH (P : Program) (f : FuncId) (args : List Value) (h : Heap) (R : Value → Heap → Prop) : Prop :=
  ∀ w : World, w.heap = h → ∃ v w', (callFunc f ⟨args⟩).run P w = .ok (.value v) w' ∧ Same w w' ∧ R v w'.heap

abbrev KS := SV → Heap → Prop
def VOk (x : Bool) (P : Program) (s : Sem Value) (h : Heap) (K : KS) : Prop := SOk x P s h fun v h' => ∃ x : SV, v = x.val ∧ K x h'

theorem VOk.pure {xf : Bool} {P : Program} {h : Heap} {K : KS} {v : Value} (x : SV) (hv : v = x.val) (k : K x h) : VOk xf P (Pure.pure v) h K :=
  SOk.pure ⟨x, hv, k⟩

/-! ### Numbers, texts, tests -/

def mulS (i s : Nat) : Nat := bif Nat.beq s 1 then i else i * s
theorem mulS_eq (i s : Nat) : mulS i s = i * s := by
  unfold mulS
  cases hs : Nat.beq s 1 with
  | true => have : s = 1 := Nat.eq_of_beq_eq_true hs; subst this; simp
  | false => rfl

def bitsI (op : BinOp) (k : IntKind) (x y : Int) : Int :=
  let a := BitVec.ofInt k.bits x
  let b := BitVec.ofInt k.bits y
  match op with
  | .and => k.wrap (a &&& b).toNat
  | .or => k.wrap (a ||| b).toNat
  | .xor => k.wrap (a ^^^ b).toNat
  | _ => k.wrap (a &&& ~~~b).toNat

def denInt (op : BinOp) (k : IntKind) (x y : Int) (K : LV → Prop) : Prop := match op with
  | .add => K (.int k (k.wrap (x + y)))
  | .sub => K (.int k (k.wrap (x - y)))
  | .mul => K (.int k (k.wrap (x * y)))
  | .quo => y ≠ 0 ∧ K (.int k (k.wrap (x.tdiv y)))
  | .rem => y ≠ 0 ∧ K (.int k (x.tmod y))
  | .and => K (.int k (bitsI .and k x y))
  | .or => K (.int k (bitsI .or k x y))
  | .xor => K (.int k (bitsI .xor k x y))
  | .andNot => K (.int k (bitsI .andNot k x y))
  | .shl => 0 ≤ y ∧ K (.int k (k.wrap (x * 2 ^ min y.toNat k.bits)))
  | .shr => 0 ≤ y ∧ K (.int k (x.fdiv (2 ^ min y.toNat k.bits)))
  | .eql => K (.bool (x == y))
  | .neq => K (.bool (x != y))
  | .lss => K (.bool (decide (x < y)))
  | .leq => K (.bool (decide (x ≤ y)))
  | .gtr => K (.bool (decide (x > y)))
  | .geq => K (.bool (decide (x ≥ y)))

def denStr (op : BinOp) (x y : ByteArray) (K : LV → Prop) : Prop := match op with
  | .add => x.size + y.size ≤ 9223372036854775807 ∧ K (.str (x ++ y))
  | .eql => K (.bool (x.toList == y.toList))
  | .neq => K (.bool (!(x.toList == y.toList)))
  | .lss => K (.bool (Op.bytesLess x.toList y.toList))
  | .leq => K (.bool (Op.bytesLess x.toList y.toList || x.toList == y.toList))
  | .gtr => K (.bool (!(Op.bytesLess x.toList y.toList || x.toList == y.toList)))
  | .geq => K (.bool (!Op.bytesLess x.toList y.toList))
  | _ => False

def isShift : BinOp → Bool
  | .shl | .shr => true
  | _ => false

def nilS : LV → Bool
  | .sl none _ _ => true
  | _ => false
def nilP : LV → Bool
  | .ptr none => true
  | _ => false

/-- '==' of what is no number and no text: bools, slices and pointers against nil. -/
def denEq (d : TDesc) (x y : LV) (K : Bool → Prop) : Prop := match d with
  | .bool => withB x fun a => withB y fun b => K (a == b)
  | .slice _ => bif nilS y then withS x fun a _ _ => K a.isNone else False
  | .ptr _ => bif nilP y then (match x with | .ptr a => K a.isNone | .ptrB _ _ => K false | _ => False) else False
  | _ => False

def denBin (X : Ctx) (op : BinOp) (t : TypeId) (x y : LV) (K : LV → Prop) : Prop :=
  match x, y with
  | .int k a, .int k' b => bif isShift op then denInt op k a b K else (if k = k' then denInt op k a b K else False)
  | .str a, .str b => denStr op a b K
  | x, y => match look X.T t with
    | some i => (match op with
      | .eql => denEq i.desc x y fun b => K (.bool b)
      | .neq => denEq i.desc x y fun b => K (.bool (!b))
      | _ => False)
    | none => False

section
variable {xf : Bool} {P : Program} {h : Heap}

theorem denInt_sound {op : BinOp} {k : IntKind} {x y : Int} {t : TypeId} {K : KS} (hd : denInt op k x y fun v => K (.t (.l v)) h) :
    VOk xf P (binOp op t (.int k x) (.int k y)) h K := by
  cases op <;> simp only [denInt] at hd <;> simp only [binOp, ne_eq, not_true_eq_false, if_false, Op.intArith, Op.intDiv, Op.intBits, Op.intCmp, Op.shift]
  case quo => rw [if_neg hd.1]; exact VOk.pure _ rfl hd.2
  case rem => rw [if_neg hd.1]; exact VOk.pure _ rfl hd.2
  case shl => rw [if_neg (by omega)]; exact VOk.pure _ rfl hd.2
  case shr => rw [if_neg (by omega)]; exact VOk.pure _ rfl hd.2
  all_goals exact VOk.pure _ rfl hd

theorem denShift_sound {op : BinOp} {k k' : IntKind} {x y : Int} {t : TypeId} {K : KS} (hs : isShift op = true) (hd : denInt op k x y fun v => K (.t (.l v)) h) :
    VOk xf P (binOp op t (.int k x) (.int k' y)) h K := by
  cases op <;> simp only [isShift] at hs <;> first | cases hs | skip
  all_goals
    simp only [denInt] at hd
    simp [binOp, Op.shift]
    rw [if_neg (by omega)]
    exact VOk.pure _ rfl hd.2

theorem i64max : IntKind.i64.max = 9223372036854775807 := by decide

theorem denStr_sound {op : BinOp} {x y : ByteArray} {t : TypeId} {K : KS} (hd : denStr op x y fun v => K (.t (.l v)) h) :
    VOk xf P (binOp op t (.string x) (.string y)) h K := by
  cases op <;> simp only [denStr] at hd <;> first | exact hd.elim | simp only [binOp, Op.stringOp]
  case add =>
    rw [if_neg (by rw [i64max]; omega)]
    exact VOk.pure _ rfl hd.2
  all_goals exact VOk.pure _ rfl hd

theorem nilS_of {y : LV} (h : nilS y = true) : ∃ n c, y.val = .slice none n c := by
  unfold nilS at h; split at h
  · exact ⟨_, _, rfl⟩
  · cases h
theorem nilP_of {y : LV} (h : nilP y = true) : y.val = .pointer none := by
  unfold nilP at h; split at h
  · rfl
  · cases h

theorem denEq_sound {T : Types} (hT : TOk P T) {t : TypeId} {i : TI} (hi : look T t = some i) {x y : LV} {K : Bool → Prop} (hd : denEq i.desc x y K) :
    SOk xf P (Op.equal t x.val y.val) h fun b h' => K b ∧ h' = h := by
  unfold Op.equal
  show SOk xf P (Op.equalIn (9999 + 1) t x.val y.val) h _
  unfold Op.equalIn
  refine SOk.bind (hT.sok_under hi fun d hdd => ?_)
  cases hde : i.desc <;> rw [hde] at hd hdd <;> simp only [denEq] at hd
  case bool =>
    obtain ⟨a, ha, hd⟩ := withB_of hd
    obtain ⟨b, hb, hd⟩ := withB_of hd
    rw [strip_bool hdd, ha, hb]
    exact SOk.pure ⟨hd, rfl⟩
  case slice e =>
    cases hn : nilS y with
    | false => rw [hn] at hd; exact hd.elim
    | true =>
      rw [hn] at hd
      obtain ⟨a, n, c, ha, hd⟩ := withS_of hd
      obtain ⟨n', c', hy⟩ := nilS_of hn
      rw [strip_slice hdd, ha, hy]
      cases a with
      | none => exact SOk.pure ⟨hd, rfl⟩
      | some a => exact SOk.pure ⟨hd, rfl⟩
  case ptr e =>
    cases hn : nilP y with
    | false => rw [hn] at hd; exact hd.elim
    | true =>
      rw [hn] at hd
      rw [strip_ptr hdd, nilP_of hn]
      cases x <;> first | exact hd.elim | skip
      case ptr a => cases a with
        | none => exact SOk.pure ⟨hd, rfl⟩
        | some a => exact SOk.pure ⟨hd, rfl⟩
      case ptrB b o => exact SOk.pure ⟨hd, rfl⟩
  all_goals exact hd.elim

theorem eqGuard_of {op : BinOp} {t : TypeId} {x y : Operand} {a b : Value} (ha : a ≠ .nilIface) (ha' : ∀ cs, a ≠ .agg cs) : eqGuard op t x y a b = Pure.pure () := by
  unfold eqGuard
  cases a <;> first | exact absurd rfl ha | (exact absurd rfl (ha' _)) | (cases op <;> rfl)

theorem denBin_sound {X : Ctx} (hX : X.Ok) {op : BinOp} {t : TypeId} {x y : LV} {xo yo : Operand} {K : KS} (hd : denBin X op t x y fun v => K (.t (.l v)) h) :
    VOk xf X.P (do eqGuard op t xo yo x.val y.val; binOp op t x.val y.val) h K := by
  unfold denBin at hd
  split at hd
  · rename_i k a k' b
    show VOk xf X.P (do eqGuard op t xo yo (.int k a) (.int k' b); binOp op t (.int k a) (.int k' b)) h K
    rw [eqGuard_of (by simp) (by simp)]
    cases hs : isShift op with
    | true => rw [hs] at hd; exact SOk.bind (SOk.pure (denShift_sound hs hd))
    | false =>
      rw [hs] at hd
      simp only [cond_false] at hd
      split at hd
      · rename_i hk; subst hk; exact SOk.bind (SOk.pure (denInt_sound hd))
      · exact hd.elim
  · rename_i a b
    show VOk xf X.P (do eqGuard op t xo yo (.string a) (.string b); binOp op t (.string a) (.string b)) h K
    rw [eqGuard_of (by simp) (by simp)]
    exact SOk.bind (SOk.pure (denStr_sound hd))
  · rename_i h1 h2
    split at hd
    · rename_i i hi
      have key : ∀ K' : Bool → Prop, denEq i.desc x y K' → x.val ≠ .nilIface ∧ (∀ cs, x.val ≠ .agg cs) ∧
          (∀ k n, x.val ≠ .int k n) ∧ (∀ s, x.val ≠ .string s) ∧ (∀ k n, x.val ≠ .float k n) ∧ (∀ k n m, x.val ≠ .complex k n m) := by
        intro K' hd
        cases hde : i.desc <;> rw [hde] at hd <;> simp only [denEq] at hd
        case bool => obtain ⟨a, ha, hd⟩ := withB_of hd; rw [ha]; simp
        case slice e =>
          cases hn : nilS y with
          | false => rw [hn] at hd; exact hd.elim
          | true => rw [hn] at hd; obtain ⟨a, n, c, ha, hd⟩ := withS_of hd; rw [ha]; simp
        case ptr e =>
          cases hn : nilP y with
          | false => rw [hn] at hd; exact hd.elim
          | true => rw [hn] at hd; cases x <;> first | exact hd.elim | simp [LV.val]
        all_goals exact hd.elim
      have bin : x.val ≠ .nilIface ∧ (∀ cs, x.val ≠ .agg cs) ∧ (∀ k n, x.val ≠ .int k n) ∧ (∀ s, x.val ≠ .string s) ∧ (∀ k n, x.val ≠ .float k n) ∧ (∀ k n m, x.val ≠ .complex k n m) →
          binOp .eql t x.val y.val = (do Pure.pure (.bool (← Op.equal t x.val y.val))) ∧ binOp .neq t x.val y.val = (do Pure.pure (.bool (!(← Op.equal t x.val y.val)))) := by
        rintro ⟨_, _, g3, g4, g5, g6⟩
        generalize x.val = u at *
        generalize y.val = v at *
        cases u <;> first | exact absurd rfl (g3 _ _) | exact absurd rfl (g4 _) | exact absurd rfl (g5 _ _) | exact absurd rfl (g6 _ _ _) | (constructor <;> (cases v <;> rfl))
      cases op <;> simp only at hd <;> first | exact hd.elim | skip
      · obtain ⟨e1, _⟩ := bin (key _ hd)
        rw [eqGuard_of (key _ hd).1 (key _ hd).2.1, e1]
        refine SOk.bind (SOk.pure (SOk.bind ((denEq_sound hX.types hi hd).mono ?_)))
        rintro b h' ⟨hb, rfl⟩
        exact VOk.pure _ rfl hb
      · obtain ⟨_, e1⟩ := bin (key _ hd)
        rw [eqGuard_of (key _ hd).1 (key _ hd).2.1, e1]
        refine SOk.bind (SOk.pure (SOk.bind ((denEq_sound hX.types hi hd).mono ?_)))
        rintro b h' ⟨hb, rfl⟩
        exact VOk.pure _ rfl hb
    · exact hd.elim
end
end Go.Proofs.Ytjmhahjmbmiepaa.D
