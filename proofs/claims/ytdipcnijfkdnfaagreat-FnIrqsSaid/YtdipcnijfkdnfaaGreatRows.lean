/-
  No cell of these rows narrows 'for every input' (looked for: loops, veiled, ifaces, maps, wideKeys, modest, calm, conditions, laid).
  DERIVED. THE GIVEN ROWS OF THIS SEAT. 5 by the template 'for every input the law returns true; each argument reads behind the call as it read before'; 0 by the template 'total and deterministic' (their statements: YtdipcnijfkdnfaaGreatTotals.lean).
  GIVEN WITH THE SEED: the statements are not yours to turn. If you find one false, say at which input.
  Laid BY PROGRAM, IN A SANDBOX (cutbox-rows.mjs): the forced cells as the released guide's own fill.sh prints them over the translation 8c78c9c444690ec3… (all of the seat's roots in one cut). By AI agents, Wed Nov 11 2026. No macro, syntax, notation, axiom, sorry.
-/
import Derived.Test.YtdipcnijfkdnfaaGreatChecked
import GoSem.Claim
import GoSem.ClaimJoined
import GoSem.ClaimMapViews
import Derived.JoinedTies
import Derived.KernelRfl
namespace Go.Proofs.YtdipcnijfkdnfaaGreat
/- THE CELL 'sum', in the pinned program and in every row, IS THE sha256 OF THE DUMP (.gsa) THAT YtdipcnijfkdnfaaGreatProg.lean LOADS. Nothing in Lean hashes anything: it is a label: what it is worth is what the hold of that sum in a sandbox is worth. -/
noncomputable def Tryz.pinned : Pinned := { name := "ytdipcnijfkdnfaagreat", sum := "8c78c9c444690ec34085d8fb3bae0efcb99a8b9e7effd78800ee735921b54a17", checked := Tryz.checked }
namespace Rows
def none {H : Type} : Left H := { results := [], args := [] }

/-- 'laws.FnStack': WHATEVER THE INPUT: true; the input reads as it did. -/
def fnStackSpec : ChangeSpec := { name := "fnStack", fn := fun _ => fun
  | [d1, d2] => { results := [.lit (.bool true)], args := [d1, d2] }
  | _ => none }
def fnStackRow : OpenClaim := { program := "ytdipcnijfkdnfaagreat", sum := "8c78c9c444690ec34085d8fb3bae0efcb99a8b9e7effd78800ee735921b54a17", func := "loop.example/g00389/laws.FnStack", spec := "fnStack", unfollowed := true, recurses := true, apart := false }
def FnStackSaid : Prop := fnStackRow.holds Tryz.pinned (OpenSpec.ofChange fnStackSpec)

/-- ITS FALSE NEIGHBOUR: 'it returns false'. Refute it at one input. -/
def fnStackWrong : ChangeSpec := { name := "fnStack", fn := fun _ => fun
  | [d1, d2] => { results := [.lit (.bool false)], args := [d1, d2] }
  | _ => none }
def FnStackWrongFalsely : Prop := fnStackRow.holds Tryz.pinned (OpenSpec.ofChange fnStackWrong)

/-- 'laws.FnFrames': WHATEVER THE INPUT: true; the input reads as it did. -/
def fnFramesSpec : ChangeSpec := { name := "fnFrames", fn := fun _ => fun
  | [d1, d2] => { results := [.lit (.bool true)], args := [d1, d2] }
  | _ => none }
def fnFramesRow : OpenClaim := { program := "ytdipcnijfkdnfaagreat", sum := "8c78c9c444690ec34085d8fb3bae0efcb99a8b9e7effd78800ee735921b54a17", func := "loop.example/g00389/laws.FnFrames", spec := "fnFrames", unfollowed := true, recurses := true, apart := false }
def FnFramesSaid : Prop := fnFramesRow.holds Tryz.pinned (OpenSpec.ofChange fnFramesSpec)

/-- ITS FALSE NEIGHBOUR: 'it returns false'. Refute it at one input. -/
def fnFramesWrong : ChangeSpec := { name := "fnFrames", fn := fun _ => fun
  | [d1, d2] => { results := [.lit (.bool false)], args := [d1, d2] }
  | _ => none }
def FnFramesWrongFalsely : Prop := fnFramesRow.holds Tryz.pinned (OpenSpec.ofChange fnFramesWrong)

/-- 'laws.FnWhole': WHATEVER THE INPUT: true; the input reads as it did. -/
def fnWholeSpec : ChangeSpec := { name := "fnWhole", fn := fun _ => fun
  | [d1, d2] => { results := [.lit (.bool true)], args := [d1, d2] }
  | _ => none }
def fnWholeRow : OpenClaim := { program := "ytdipcnijfkdnfaagreat", sum := "8c78c9c444690ec34085d8fb3bae0efcb99a8b9e7effd78800ee735921b54a17", func := "loop.example/g00389/laws.FnWhole", spec := "fnWhole", unfollowed := true, recurses := true, apart := false }
def FnWholeSaid : Prop := fnWholeRow.holds Tryz.pinned (OpenSpec.ofChange fnWholeSpec)

/-- ITS FALSE NEIGHBOUR: 'it returns false'. Refute it at one input. -/
def fnWholeWrong : ChangeSpec := { name := "fnWhole", fn := fun _ => fun
  | [d1, d2] => { results := [.lit (.bool false)], args := [d1, d2] }
  | _ => none }
def FnWholeWrongFalsely : Prop := fnWholeRow.holds Tryz.pinned (OpenSpec.ofChange fnWholeWrong)

/-- 'laws.FnMasks': WHATEVER THE INPUT: true; the input reads as it did. -/
def fnMasksSpec : ChangeSpec := { name := "fnMasks", fn := fun _ => fun
  | [d1, d2] => { results := [.lit (.bool true)], args := [d1, d2] }
  | _ => none }
def fnMasksRow : OpenClaim := { program := "ytdipcnijfkdnfaagreat", sum := "8c78c9c444690ec34085d8fb3bae0efcb99a8b9e7effd78800ee735921b54a17", func := "loop.example/g00389/laws.FnMasks", spec := "fnMasks", unfollowed := true, recurses := true, apart := false }
def FnMasksSaid : Prop := fnMasksRow.holds Tryz.pinned (OpenSpec.ofChange fnMasksSpec)

/-- ITS FALSE NEIGHBOUR: 'it returns false'. Refute it at one input. -/
def fnMasksWrong : ChangeSpec := { name := "fnMasks", fn := fun _ => fun
  | [d1, d2] => { results := [.lit (.bool false)], args := [d1, d2] }
  | _ => none }
def FnMasksWrongFalsely : Prop := fnMasksRow.holds Tryz.pinned (OpenSpec.ofChange fnMasksWrong)

/-- 'laws.FnIrqs': WHATEVER THE INPUT: true; the input reads as it did. -/
def fnIrqsSpec : ChangeSpec := { name := "fnIrqs", fn := fun _ => fun
  | [d1, d2] => { results := [.lit (.bool true)], args := [d1, d2] }
  | _ => none }
def fnIrqsRow : OpenClaim := { program := "ytdipcnijfkdnfaagreat", sum := "8c78c9c444690ec34085d8fb3bae0efcb99a8b9e7effd78800ee735921b54a17", func := "loop.example/g00389/laws.FnIrqs", spec := "fnIrqs", unfollowed := true, recurses := true, apart := false }
def FnIrqsSaid : Prop := fnIrqsRow.holds Tryz.pinned (OpenSpec.ofChange fnIrqsSpec)

/-- ITS FALSE NEIGHBOUR: 'it returns false'. Refute it at one input. -/
def fnIrqsWrong : ChangeSpec := { name := "fnIrqs", fn := fun _ => fun
  | [d1, d2] => { results := [.lit (.bool false)], args := [d1, d2] }
  | _ => none }
def FnIrqsWrongFalsely : Prop := fnIrqsRow.holds Tryz.pinned (OpenSpec.ofChange fnIrqsWrong)

/- THE SECOND FORM. 'bulk': how many values and letters a reading holds, each counted each time it is reached (what is shared counts as often as it is met; a slice's spare places count too). A statement '..UptoSaid' is the law's where the arguments, and the package variables that the reading takes, are together of bulk at most 1048576: NARROWER than '..Said'. Prove '..Said' where nothing that the law and all that it calls make is longer than what came in: it says more and counts as full. Else prove '..UptoSaid'. A law counts once. -/
mutual
def uptoBulk {H : Type} : DataW H → Nat
  | .lit (.string bytes) => bytes.length + 1
  | .lit _ => 1
  | .nil => 1
  | .ptr d => uptoBulk d + 1
  | .slice elems spare => uptoBulkAll elems + uptoBulkAll spare + 1
  | .agg parts => uptoBulkAll parts + 1
  | .iface _ d => uptoBulk d + 1
  | .map entries => uptoBulkEntries entries + 1
  | .held _ => 1
def uptoBulkAll {H : Type} : List (DataW H) → Nat
  | [] => 0
  | d :: r => uptoBulk d + uptoBulkAll r
def uptoBulkEntries {H : Type} : List (Lit × DataW H) → Nat
  | [] => 0
  | x :: r => uptoBulkEntry x + uptoBulkEntries r
def uptoBulkEntry {H : Type} : Lit × DataW H → Nat
  | (.string bytes, d) => bytes.length + uptoBulk d + 1
  | (_, d) => uptoBulk d + 1
 end
def uptoSmall : (H : Type) → List (DataW H) → Bool := fun _ ds => decide (uptoBulkAll ds ≤ 1048576)
def OpenSpec.upto (s : _root_.Go.ChangeSpec) : _root_.Go.OpenSpec := { _root_.Go.OpenSpec.ofChange s with cond := some uptoSmall }

/-- 'laws.FnStack', WHERE WHAT IT READS IS OF BULK AT MOST 1048576: true; the input reads as it did. -/
def fnStackUptoRow : OpenClaim := { program := "ytdipcnijfkdnfaagreat", sum := "8c78c9c444690ec34085d8fb3bae0efcb99a8b9e7effd78800ee735921b54a17", func := "loop.example/g00389/laws.FnStack", spec := "fnStack", unfollowed := true, recurses := true, apart := false, narrowed := true }
def FnStackUptoSaid : Prop := fnStackUptoRow.holds Tryz.pinned (OpenSpec.upto fnStackSpec)

/-- 'laws.FnFrames', WHERE WHAT IT READS IS OF BULK AT MOST 1048576: true; the input reads as it did. -/
def fnFramesUptoRow : OpenClaim := { program := "ytdipcnijfkdnfaagreat", sum := "8c78c9c444690ec34085d8fb3bae0efcb99a8b9e7effd78800ee735921b54a17", func := "loop.example/g00389/laws.FnFrames", spec := "fnFrames", unfollowed := true, recurses := true, apart := false, narrowed := true }
def FnFramesUptoSaid : Prop := fnFramesUptoRow.holds Tryz.pinned (OpenSpec.upto fnFramesSpec)

/-- 'laws.FnWhole', WHERE WHAT IT READS IS OF BULK AT MOST 1048576: true; the input reads as it did. -/
def fnWholeUptoRow : OpenClaim := { program := "ytdipcnijfkdnfaagreat", sum := "8c78c9c444690ec34085d8fb3bae0efcb99a8b9e7effd78800ee735921b54a17", func := "loop.example/g00389/laws.FnWhole", spec := "fnWhole", unfollowed := true, recurses := true, apart := false, narrowed := true }
def FnWholeUptoSaid : Prop := fnWholeUptoRow.holds Tryz.pinned (OpenSpec.upto fnWholeSpec)

/-- 'laws.FnMasks', WHERE WHAT IT READS IS OF BULK AT MOST 1048576: true; the input reads as it did. -/
def fnMasksUptoRow : OpenClaim := { program := "ytdipcnijfkdnfaagreat", sum := "8c78c9c444690ec34085d8fb3bae0efcb99a8b9e7effd78800ee735921b54a17", func := "loop.example/g00389/laws.FnMasks", spec := "fnMasks", unfollowed := true, recurses := true, apart := false, narrowed := true }
def FnMasksUptoSaid : Prop := fnMasksUptoRow.holds Tryz.pinned (OpenSpec.upto fnMasksSpec)

/-- 'laws.FnIrqs', WHERE WHAT IT READS IS OF BULK AT MOST 1048576: true; the input reads as it did. -/
def fnIrqsUptoRow : OpenClaim := { program := "ytdipcnijfkdnfaagreat", sum := "8c78c9c444690ec34085d8fb3bae0efcb99a8b9e7effd78800ee735921b54a17", func := "loop.example/g00389/laws.FnIrqs", spec := "fnIrqs", unfollowed := true, recurses := true, apart := false, narrowed := true }
def FnIrqsUptoSaid : Prop := fnIrqsUptoRow.holds Tryz.pinned (OpenSpec.upto fnIrqsSpec)

end Rows
end Go.Proofs.YtdipcnijfkdnfaaGreat
