/-
  No cell of these rows narrows 'for every input' (looked for: loops, veiled, ifaces, maps, wideKeys, modest, calm, conditions, laid).
  DERIVED. THE GIVEN ROWS OF THIS SEAT. 6 by the template 'for every input the law returns true; each argument reads behind the call as it read before'; 0 by the template 'total and deterministic' (their statements: YtjmhahjmbmiepaaTotals.lean).
  GIVEN WITH THE SEED: the statements are not yours to turn. If you find one false, say at which input.
  Laid BY PROGRAM, IN A SANDBOX (cutbox-rows.mjs): the forced cells as the released guide's own fill.sh prints them over the translation c4868e081a7ad2b1… (all of the seat's roots in one cut). By AI agents, Wed Nov 11 2026. No macro, syntax, notation, axiom, sorry.
-/
import Derived.Test.YtjmhahjmbmiepaaChecked
import GoSem.Claim
import GoSem.ClaimJoined
import GoSem.ClaimMapViews
import Derived.JoinedTies
import Derived.KernelRfl
namespace Go.Proofs.Ytjmhahjmbmiepaa
/- THE CELL 'sum', in the pinned program and in every row, IS THE sha256 OF THE DUMP (.gsa) THAT YtjmhahjmbmiepaaProg.lean LOADS. Nothing in Lean hashes anything: it is a label: what it is worth is what the hold of that sum in a sandbox is worth. -/
noncomputable def Try.pinned : Pinned := { name := "ytjmhahjmbmiepaa", sum := "c4868e081a7ad2b1bab0a5cc7b83c583e12a19d6123de59bd827a0188b317723", checked := Try.checked }
namespace Rows
def none {H : Type} : Left H := { results := [], args := [] }

/-- 'laws.FnExactPlayBank': WHATEVER THE INPUT: true; the input reads as it did. -/
def fnExactPlayBankSpec : ChangeSpec := { name := "fnExactPlayBank", fn := fun _ => fun
  | [d1, d2] => { results := [.lit (.bool true)], args := [d1, d2] }
  | _ => none }
def fnExactPlayBankRow : OpenClaim := { program := "ytjmhahjmbmiepaa", sum := "c4868e081a7ad2b1bab0a5cc7b83c583e12a19d6123de59bd827a0188b317723", func := "loop.example/g00522/laws.FnExactPlayBank", spec := "fnExactPlayBank", unfollowed := true, recurses := true, apart := false }
def FnExactPlayBankSaid : Prop := fnExactPlayBankRow.holds Try.pinned (OpenSpec.ofChange fnExactPlayBankSpec)

/-- ITS FALSE NEIGHBOUR: 'it returns false'. Refute it at one input. -/
def fnExactPlayBankWrong : ChangeSpec := { name := "fnExactPlayBank", fn := fun _ => fun
  | [d1, d2] => { results := [.lit (.bool false)], args := [d1, d2] }
  | _ => none }
def FnExactPlayBankWrongFalsely : Prop := fnExactPlayBankRow.holds Try.pinned (OpenSpec.ofChange fnExactPlayBankWrong)

/-- 'laws.FnPictures': WHATEVER THE INPUT: true; the input reads as it did. -/
def fnPicturesSpec : ChangeSpec := { name := "fnPictures", fn := fun _ => fun
  | [d] => { results := [.lit (.bool true)], args := [d] }
  | _ => none }
def fnPicturesRow : OpenClaim := { program := "ytjmhahjmbmiepaa", sum := "c4868e081a7ad2b1bab0a5cc7b83c583e12a19d6123de59bd827a0188b317723", func := "loop.example/g00522/laws.FnPictures", spec := "fnPictures", unfollowed := true, recurses := true, apart := false }
def FnPicturesSaid : Prop := fnPicturesRow.holds Try.pinned (OpenSpec.ofChange fnPicturesSpec)

/-- ITS FALSE NEIGHBOUR: 'it returns false'. Refute it at one input. -/
def fnPicturesWrong : ChangeSpec := { name := "fnPictures", fn := fun _ => fun
  | [d] => { results := [.lit (.bool false)], args := [d] }
  | _ => none }
def FnPicturesWrongFalsely : Prop := fnPicturesRow.holds Try.pinned (OpenSpec.ofChange fnPicturesWrong)

/-- 'laws.FnExactPlayPlain': WHATEVER THE INPUT: true; the input reads as it did. -/
def fnExactPlayPlainSpec : ChangeSpec := { name := "fnExactPlayPlain", fn := fun _ => fun
  | [d] => { results := [.lit (.bool true)], args := [d] }
  | _ => none }
def fnExactPlayPlainRow : OpenClaim := { program := "ytjmhahjmbmiepaa", sum := "c4868e081a7ad2b1bab0a5cc7b83c583e12a19d6123de59bd827a0188b317723", func := "loop.example/g00522/laws.FnExactPlayPlain", spec := "fnExactPlayPlain", inPlace := ["internal/bytealg.abigen_runtime_cmpstring", "slices.overlaps[loop.example/g00522/impl.Row]"], unfollowed := true, recurses := true, apart := false }
def FnExactPlayPlainSaid : Prop := fnExactPlayPlainRow.holds Try.pinned (OpenSpec.ofChange fnExactPlayPlainSpec)

/-- ITS FALSE NEIGHBOUR: 'it returns false'. Refute it at one input. -/
def fnExactPlayPlainWrong : ChangeSpec := { name := "fnExactPlayPlain", fn := fun _ => fun
  | [d] => { results := [.lit (.bool false)], args := [d] }
  | _ => none }
def FnExactPlayPlainWrongFalsely : Prop := fnExactPlayPlainRow.holds Try.pinned (OpenSpec.ofChange fnExactPlayPlainWrong)

/-- 'laws.FnExactTopOf': WHATEVER THE INPUT: true; the input reads as it did. -/
def fnExactTopOfSpec : ChangeSpec := { name := "fnExactTopOf", fn := fun _ => fun
  | [d1, d2, d3] => { results := [.lit (.bool true)], args := [d1, d2, d3] }
  | _ => none }
def fnExactTopOfRow : OpenClaim := { program := "ytjmhahjmbmiepaa", sum := "c4868e081a7ad2b1bab0a5cc7b83c583e12a19d6123de59bd827a0188b317723", func := "loop.example/g00522/laws.FnExactTopOf", spec := "fnExactTopOf", inPlace := ["internal/abi.NoEscape", "internal/bytealg.MakeNoZero"], unfollowed := true, recurses := true, apart := false }
def FnExactTopOfSaid : Prop := fnExactTopOfRow.holds Try.pinned (OpenSpec.ofChange fnExactTopOfSpec)

/-- ITS FALSE NEIGHBOUR: 'it returns false'. Refute it at one input. -/
def fnExactTopOfWrong : ChangeSpec := { name := "fnExactTopOf", fn := fun _ => fun
  | [d1, d2, d3] => { results := [.lit (.bool false)], args := [d1, d2, d3] }
  | _ => none }
def FnExactTopOfWrongFalsely : Prop := fnExactTopOfRow.holds Try.pinned (OpenSpec.ofChange fnExactTopOfWrong)

/-- 'laws.FnPolls': WHATEVER THE INPUT: true; the input reads as it did. -/
def fnPollsSpec : ChangeSpec := { name := "fnPolls", fn := fun _ => fun
  | [d1, d2] => { results := [.lit (.bool true)], args := [d1, d2] }
  | _ => none }
def fnPollsRow : OpenClaim := { program := "ytjmhahjmbmiepaa", sum := "c4868e081a7ad2b1bab0a5cc7b83c583e12a19d6123de59bd827a0188b317723", func := "loop.example/g00522/laws.FnPolls", spec := "fnPolls", inPlace := ["slices.overlaps[int]"], unfollowed := true, recurses := true, apart := false }
def FnPollsSaid : Prop := fnPollsRow.holds Try.pinned (OpenSpec.ofChange fnPollsSpec)

/-- ITS FALSE NEIGHBOUR: 'it returns false'. Refute it at one input. -/
def fnPollsWrong : ChangeSpec := { name := "fnPolls", fn := fun _ => fun
  | [d1, d2] => { results := [.lit (.bool false)], args := [d1, d2] }
  | _ => none }
def FnPollsWrongFalsely : Prop := fnPollsRow.holds Try.pinned (OpenSpec.ofChange fnPollsWrong)

/-- 'laws.FnMerged': WHATEVER THE INPUT: true; the input reads as it did. -/
def fnMergedSpec : ChangeSpec := { name := "fnMerged", fn := fun _ => fun
  | [d1, d2] => { results := [.lit (.bool true)], args := [d1, d2] }
  | _ => none }
def fnMergedRow : OpenClaim := { program := "ytjmhahjmbmiepaa", sum := "c4868e081a7ad2b1bab0a5cc7b83c583e12a19d6123de59bd827a0188b317723", func := "loop.example/g00522/laws.FnMerged", spec := "fnMerged", inPlace := ["internal/abi.NoEscape", "internal/bytealg.MakeNoZero", "internal/bytealg.abigen_runtime_cmpstring", "slices.overlaps[loop.example/g00522/impl.Total]"], unfollowed := true, recurses := true, apart := false }
def FnMergedSaid : Prop := fnMergedRow.holds Try.pinned (OpenSpec.ofChange fnMergedSpec)

/-- ITS FALSE NEIGHBOUR: 'it returns false'. Refute it at one input. -/
def fnMergedWrong : ChangeSpec := { name := "fnMerged", fn := fun _ => fun
  | [d1, d2] => { results := [.lit (.bool false)], args := [d1, d2] }
  | _ => none }
def FnMergedWrongFalsely : Prop := fnMergedRow.holds Try.pinned (OpenSpec.ofChange fnMergedWrong)

/- THE SECOND FORM. 'bulk': how many values and letters a reading holds, each counted each time it is reached (what is shared counts as often as it is met; a slice's spare places count too). A statement '..UptoSaid' is the law's where the arguments, and the package variables that the reading takes, are together of bulk at most 1048576: NARROWER than '..Said'. Prove '..Said' where nothing that the law and all that it calls make is longer than what came in: it says more and counts as full. Else prove '..UptoSaid'. A law counts once. -/
mutual
def uptoBulk {H : Type} : DataW H → Nat
  | .lit (.string bytes) => bytes.length + 1
  | .lit _ => 1
  | .nil => 1
  | .ptr d => uptoBulk d + 1
  | .slice elems spare => uptoBulkAll elems + uptoBulkAll spare + 1
  | .agg parts => uptoBulkAll parts + 1
  | .iface _ d => uptoBulk d + 1
  | .map entries => uptoBulkEntries entries + 1
  | .held _ => 1
def uptoBulkAll {H : Type} : List (DataW H) → Nat
  | [] => 0
  | d :: r => uptoBulk d + uptoBulkAll r
def uptoBulkEntries {H : Type} : List (Lit × DataW H) → Nat
  | [] => 0
  | x :: r => uptoBulkEntry x + uptoBulkEntries r
def uptoBulkEntry {H : Type} : Lit × DataW H → Nat
  | (.string bytes, d) => bytes.length + uptoBulk d + 1
  | (_, d) => uptoBulk d + 1
 end
def uptoSmall : (H : Type) → List (DataW H) → Bool := fun _ ds => decide (uptoBulkAll ds ≤ 1048576)
def OpenSpec.upto (s : _root_.Go.ChangeSpec) : _root_.Go.OpenSpec := { _root_.Go.OpenSpec.ofChange s with cond := some uptoSmall }

/-- 'laws.FnExactPlayBank', WHERE WHAT IT READS IS OF BULK AT MOST 1048576: true; the input reads as it did. -/
def fnExactPlayBankUptoRow : OpenClaim := { program := "ytjmhahjmbmiepaa", sum := "c4868e081a7ad2b1bab0a5cc7b83c583e12a19d6123de59bd827a0188b317723", func := "loop.example/g00522/laws.FnExactPlayBank", spec := "fnExactPlayBank", unfollowed := true, recurses := true, apart := false, narrowed := true }
def FnExactPlayBankUptoSaid : Prop := fnExactPlayBankUptoRow.holds Try.pinned (OpenSpec.upto fnExactPlayBankSpec)

/-- 'laws.FnPictures', WHERE WHAT IT READS IS OF BULK AT MOST 1048576: true; the input reads as it did. -/
def fnPicturesUptoRow : OpenClaim := { program := "ytjmhahjmbmiepaa", sum := "c4868e081a7ad2b1bab0a5cc7b83c583e12a19d6123de59bd827a0188b317723", func := "loop.example/g00522/laws.FnPictures", spec := "fnPictures", unfollowed := true, recurses := true, apart := false, narrowed := true }
def FnPicturesUptoSaid : Prop := fnPicturesUptoRow.holds Try.pinned (OpenSpec.upto fnPicturesSpec)

/-- 'laws.FnExactPlayPlain', WHERE WHAT IT READS IS OF BULK AT MOST 1048576: true; the input reads as it did. -/
def fnExactPlayPlainUptoRow : OpenClaim := { program := "ytjmhahjmbmiepaa", sum := "c4868e081a7ad2b1bab0a5cc7b83c583e12a19d6123de59bd827a0188b317723", func := "loop.example/g00522/laws.FnExactPlayPlain", spec := "fnExactPlayPlain", inPlace := ["internal/bytealg.abigen_runtime_cmpstring", "slices.overlaps[loop.example/g00522/impl.Row]"], unfollowed := true, recurses := true, apart := false, narrowed := true }
def FnExactPlayPlainUptoSaid : Prop := fnExactPlayPlainUptoRow.holds Try.pinned (OpenSpec.upto fnExactPlayPlainSpec)

/-- 'laws.FnExactTopOf', WHERE WHAT IT READS IS OF BULK AT MOST 1048576: true; the input reads as it did. -/
def fnExactTopOfUptoRow : OpenClaim := { program := "ytjmhahjmbmiepaa", sum := "c4868e081a7ad2b1bab0a5cc7b83c583e12a19d6123de59bd827a0188b317723", func := "loop.example/g00522/laws.FnExactTopOf", spec := "fnExactTopOf", inPlace := ["internal/abi.NoEscape", "internal/bytealg.MakeNoZero"], unfollowed := true, recurses := true, apart := false, narrowed := true }
def FnExactTopOfUptoSaid : Prop := fnExactTopOfUptoRow.holds Try.pinned (OpenSpec.upto fnExactTopOfSpec)

/-- 'laws.FnPolls', WHERE WHAT IT READS IS OF BULK AT MOST 1048576: true; the input reads as it did. -/
def fnPollsUptoRow : OpenClaim := { program := "ytjmhahjmbmiepaa", sum := "c4868e081a7ad2b1bab0a5cc7b83c583e12a19d6123de59bd827a0188b317723", func := "loop.example/g00522/laws.FnPolls", spec := "fnPolls", inPlace := ["slices.overlaps[int]"], unfollowed := true, recurses := true, apart := false, narrowed := true }
def FnPollsUptoSaid : Prop := fnPollsUptoRow.holds Try.pinned (OpenSpec.upto fnPollsSpec)

/-- 'laws.FnMerged', WHERE WHAT IT READS IS OF BULK AT MOST 1048576: true; the input reads as it did. -/
def fnMergedUptoRow : OpenClaim := { program := "ytjmhahjmbmiepaa", sum := "c4868e081a7ad2b1bab0a5cc7b83c583e12a19d6123de59bd827a0188b317723", func := "loop.example/g00522/laws.FnMerged", spec := "fnMerged", inPlace := ["internal/abi.NoEscape", "internal/bytealg.MakeNoZero", "internal/bytealg.abigen_runtime_cmpstring", "slices.overlaps[loop.example/g00522/impl.Total]"], unfollowed := true, recurses := true, apart := false, narrowed := true }
def FnMergedUptoSaid : Prop := fnMergedUptoRow.holds Try.pinned (OpenSpec.upto fnMergedSpec)

end Rows
end Go.Proofs.Ytjmhahjmbmiepaa
