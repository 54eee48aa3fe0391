/- Kinds of this program's data; banks. -/
import Derived.Test.YtjmhahjmbmiepaaRepD
import Derived.Test.YtjmhahjmbmiepaaTab
namespace Go.Proofs.Ytjmhahjmbmiepaa.D
open Go
set_option linter.unusedVariables false
set_option linter.unusedSimpArgs false

abbrev kI : Kind Int := kInt ty_int
abbrev kB : Kind Bool := kBool ty_bool
abbrev kIS : Kind (List Int) := kSl ty_S_int kI
abbrev kBS : Kind (List Bool) := kSl ty_S_bool kB

structure BankD where
  coins : List Int
  ways : List (List Int)
  kept : List Int
  heard : List (List Bool)
  found : List (List Int)
  deriving DecidableEq
/-- A header of a slice. -/
structure Hd where
  a : Option Addr
  n : Nat
  c : Nat
def Hd.v (d : Hd) : Value := .slice d.a d.n d.c
def Hd.nil : Hd := ⟨none, 0, 0⟩
structure BankH where
  d0 : Hd
  d1 : Hd
  d2 : Hd
  d3 : Hd
  d4 : Hd
def BankH.cells (d : BankH) : List Value := [d.d0.v, d.d1.v, d.d2.v, d.d3.v, d.d4.v]
def BankH.nil : BankH := ⟨.nil, .nil, .nil, .nil, .nil⟩
/-- A bank whose parts share nothing. -/
structure BankAt (h : Heap) (x : BankD) (d : BankH) (F0 F1 F2 F3 F4 : List Nat) : Prop where
  s0 : Sl kI h x.coins d.d0.a d.d0.n d.d0.c F0
  s1 : Sl kIS h x.ways d.d1.a d.d1.n d.d1.c F1
  s2 : Sl kI h x.kept d.d2.a d.d2.n d.d2.c F2
  s3 : Sl kBS h x.heard d.d3.a d.d3.n d.d3.c F3
  s4 : Sl kIS h x.found d.d4.a d.d4.n d.d4.c F4
theorem BankAt.frm {h h' : Heap} {x : BankD} {d : BankH} {F0 F1 F2 F3 F4 S : List Nat} (b : BankAt h x d F0 F1 F2 F3 F4) (f : Frm S h h') (hd : ∀ y ∈ F0 ++ F1 ++ F2 ++ F3 ++ F4, y ∉ S) : BankAt h' x d F0 F1 F2 F3 F4 :=
  ⟨b.s0.frm f fun y hy => hd y (by simp [hy]), b.s1.frm f fun y hy => hd y (by simp [hy]), b.s2.frm f fun y hy => hd y (by simp [hy]), b.s3.frm f fun y hy => hd y (by simp [hy]), b.s4.frm f fun y hy => hd y (by simp [hy])⟩
theorem BankAt.ext {h h' : Heap} {x : BankD} {d : BankH} {F0 F1 F2 F3 F4 : List Nat} (b : BankAt h x d F0 F1 F2 F3 F4) (f : Ext h h') : BankAt h' x d F0 F1 F2 F3 F4 := b.frm f fun _ _ h => by cases h

abbrev kSI : Kind StepD := kStep ty_impl_SnapStep
theorem ok0 : StepD.ok ⟨0, 0, 0, 0⟩ := by simp [StepD.ok, inI64]
end Go.Proofs.Ytjmhahjmbmiepaa.D
