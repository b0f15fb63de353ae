/-
  No cell of these rows narrows 'for every input' (looked for: loops, veiled, ifaces, maps, wideKeys, modest, calm, conditions, laid).
  DERIVED. THE GIVEN ROWS OF THIS SEAT. 7 by the template 'for every input the law returns true; each argument reads behind the call as it read before'; 0 by the template 'total and deterministic' (their statements: YtdicpjkdpliofaaGreatTotals.lean).
  GIVEN WITH THE SEED: the statements are not yours to turn. If you find one false, say at which input.
  Laid BY PROGRAM, IN A SANDBOX (cutbox-rows.mjs): the forced cells as the released guide's own fill.sh prints them over the translation 0289f901e42eece1… (all of the seat's roots in one cut). By AI agents, Wed Nov 11 2026. No macro, syntax, notation, axiom, sorry.
-/
import Derived.Test.YtdicpjkdpliofaaGreatChecked
import GoSem.Claim
import GoSem.ClaimJoined
import GoSem.ClaimMapViews
import Derived.JoinedTies
import Derived.KernelRfl
namespace Go.Proofs.YtdicpjkdpliofaaGreat
/- THE CELL 'sum', in the pinned program and in every row, IS THE sha256 OF THE DUMP (.gsa) THAT YtdicpjkdpliofaaGreatProg.lean LOADS. Nothing in Lean hashes anything: it is a label: what it is worth is what the hold of that sum in a sandbox is worth. -/
noncomputable def Tryz.pinned : Pinned := { name := "ytdicpjkdpliofaagreat", sum := "0289f901e42eece104d1f6de7a458227c3359d8985a1da2b1580560d5d3f30f2", checked := Tryz.checked }
namespace Rows
def none {H : Type} : Left H := { results := [], args := [] }

/-- 'laws.FnMasks': WHATEVER THE INPUT: true; the input reads as it did. -/
def fnMasksSpec : ChangeSpec := { name := "fnMasks", fn := fun _ => fun
  | [d1, d2] => { results := [.lit (.bool true)], args := [d1, d2] }
  | _ => none }
def fnMasksRow : OpenClaim := { program := "ytdicpjkdpliofaagreat", sum := "0289f901e42eece104d1f6de7a458227c3359d8985a1da2b1580560d5d3f30f2", func := "loop.example/g00389/laws.FnMasks", spec := "fnMasks", unfollowed := true, recurses := true, apart := false }
def FnMasksSaid : Prop := fnMasksRow.holds Tryz.pinned (OpenSpec.ofChange fnMasksSpec)

/-- ITS FALSE NEIGHBOUR: 'it returns false'. Refute it at one input. -/
def fnMasksWrong : ChangeSpec := { name := "fnMasks", fn := fun _ => fun
  | [d1, d2] => { results := [.lit (.bool false)], args := [d1, d2] }
  | _ => none }
def FnMasksWrongFalsely : Prop := fnMasksRow.holds Tryz.pinned (OpenSpec.ofChange fnMasksWrong)

/-- 'laws.FnBoundaries': WHATEVER THE INPUT: true; the input reads as it did. -/
def fnBoundariesSpec : ChangeSpec := { name := "fnBoundaries", fn := fun _ => fun
  | [d1, d2] => { results := [.lit (.bool true)], args := [d1, d2] }
  | _ => none }
def fnBoundariesRow : OpenClaim := { program := "ytdicpjkdpliofaagreat", sum := "0289f901e42eece104d1f6de7a458227c3359d8985a1da2b1580560d5d3f30f2", func := "loop.example/g00389/laws.FnBoundaries", spec := "fnBoundaries", unfollowed := true, recurses := true, apart := false }
def FnBoundariesSaid : Prop := fnBoundariesRow.holds Tryz.pinned (OpenSpec.ofChange fnBoundariesSpec)

/-- ITS FALSE NEIGHBOUR: 'it returns false'. Refute it at one input. -/
def fnBoundariesWrong : ChangeSpec := { name := "fnBoundaries", fn := fun _ => fun
  | [d1, d2] => { results := [.lit (.bool false)], args := [d1, d2] }
  | _ => none }
def FnBoundariesWrongFalsely : Prop := fnBoundariesRow.holds Tryz.pinned (OpenSpec.ofChange fnBoundariesWrong)

/-- 'laws.FnExactPlayIrq': WHATEVER THE INPUT: true; the input reads as it did. -/
def fnExactPlayIrqSpec : ChangeSpec := { name := "fnExactPlayIrq", fn := fun _ => fun
  | [d1, d2] => { results := [.lit (.bool true)], args := [d1, d2] }
  | _ => none }
def fnExactPlayIrqRow : OpenClaim := { program := "ytdicpjkdpliofaagreat", sum := "0289f901e42eece104d1f6de7a458227c3359d8985a1da2b1580560d5d3f30f2", func := "loop.example/g00389/laws.FnExactPlayIrq", spec := "fnExactPlayIrq", unfollowed := true, recurses := true, apart := false }
def FnExactPlayIrqSaid : Prop := fnExactPlayIrqRow.holds Tryz.pinned (OpenSpec.ofChange fnExactPlayIrqSpec)

/-- ITS FALSE NEIGHBOUR: 'it returns false'. Refute it at one input. -/
def fnExactPlayIrqWrong : ChangeSpec := { name := "fnExactPlayIrq", fn := fun _ => fun
  | [d1, d2] => { results := [.lit (.bool false)], args := [d1, d2] }
  | _ => none }
def FnExactPlayIrqWrongFalsely : Prop := fnExactPlayIrqRow.holds Tryz.pinned (OpenSpec.ofChange fnExactPlayIrqWrong)

/-- 'laws.FnExactPlayPlain': WHATEVER THE INPUT: true; the input reads as it did. -/
def fnExactPlayPlainSpec : ChangeSpec := { name := "fnExactPlayPlain", fn := fun _ => fun
  | [d1, d2] => { results := [.lit (.bool true)], args := [d1, d2] }
  | _ => none }
def fnExactPlayPlainRow : OpenClaim := { program := "ytdicpjkdpliofaagreat", sum := "0289f901e42eece104d1f6de7a458227c3359d8985a1da2b1580560d5d3f30f2", func := "loop.example/g00389/laws.FnExactPlayPlain", spec := "fnExactPlayPlain", unfollowed := true, recurses := true, apart := false }
def FnExactPlayPlainSaid : Prop := fnExactPlayPlainRow.holds Tryz.pinned (OpenSpec.ofChange fnExactPlayPlainSpec)

/-- ITS FALSE NEIGHBOUR: 'it returns false'. Refute it at one input. -/
def fnExactPlayPlainWrong : ChangeSpec := { name := "fnExactPlayPlain", fn := fun _ => fun
  | [d1, d2] => { results := [.lit (.bool false)], args := [d1, d2] }
  | _ => none }
def FnExactPlayPlainWrongFalsely : Prop := fnExactPlayPlainRow.holds Tryz.pinned (OpenSpec.ofChange fnExactPlayPlainWrong)

/-- 'laws.FnExactRunRow': WHATEVER THE INPUT: true; the input reads as it did. -/
def fnExactRunRowSpec : ChangeSpec := { name := "fnExactRunRow", fn := fun _ => fun
  | [d1, d2, d3, d4] => { results := [.lit (.bool true)], args := [d1, d2, d3, d4] }
  | _ => none }
def fnExactRunRowRow : OpenClaim := { program := "ytdicpjkdpliofaagreat", sum := "0289f901e42eece104d1f6de7a458227c3359d8985a1da2b1580560d5d3f30f2", func := "loop.example/g00389/laws.FnExactRunRow", spec := "fnExactRunRow", unfollowed := true, recurses := true, apart := false }
def FnExactRunRowSaid : Prop := fnExactRunRowRow.holds Tryz.pinned (OpenSpec.ofChange fnExactRunRowSpec)

/-- ITS FALSE NEIGHBOUR: 'it returns false'. Refute it at one input. -/
def fnExactRunRowWrong : ChangeSpec := { name := "fnExactRunRow", fn := fun _ => fun
  | [d1, d2, d3, d4] => { results := [.lit (.bool false)], args := [d1, d2, d3, d4] }
  | _ => none }
def FnExactRunRowWrongFalsely : Prop := fnExactRunRowRow.holds Tryz.pinned (OpenSpec.ofChange fnExactRunRowWrong)

/-- 'laws.FnDead': WHATEVER THE INPUT: true; the input reads as it did. -/
def fnDeadSpec : ChangeSpec := { name := "fnDead", fn := fun _ => fun
  | [d1, d2] => { results := [.lit (.bool true)], args := [d1, d2] }
  | _ => none }
def fnDeadRow : OpenClaim := { program := "ytdicpjkdpliofaagreat", sum := "0289f901e42eece104d1f6de7a458227c3359d8985a1da2b1580560d5d3f30f2", func := "loop.example/g00389/laws.FnDead", spec := "fnDead", unfollowed := true, recurses := true, apart := false }
def FnDeadSaid : Prop := fnDeadRow.holds Tryz.pinned (OpenSpec.ofChange fnDeadSpec)

/-- ITS FALSE NEIGHBOUR: 'it returns false'. Refute it at one input. -/
def fnDeadWrong : ChangeSpec := { name := "fnDead", fn := fun _ => fun
  | [d1, d2] => { results := [.lit (.bool false)], args := [d1, d2] }
  | _ => none }
def FnDeadWrongFalsely : Prop := fnDeadRow.holds Tryz.pinned (OpenSpec.ofChange fnDeadWrong)

/-- 'laws.FnUnits': WHATEVER THE INPUT: true; the input reads as it did. -/
def fnUnitsSpec : ChangeSpec := { name := "fnUnits", fn := fun _ => fun
  | [d1, d2] => { results := [.lit (.bool true)], args := [d1, d2] }
  | _ => none }
def fnUnitsRow : OpenClaim := { program := "ytdicpjkdpliofaagreat", sum := "0289f901e42eece104d1f6de7a458227c3359d8985a1da2b1580560d5d3f30f2", func := "loop.example/g00389/laws.FnUnits", spec := "fnUnits", unfollowed := true, recurses := true, apart := false }
def FnUnitsSaid : Prop := fnUnitsRow.holds Tryz.pinned (OpenSpec.ofChange fnUnitsSpec)

/-- ITS FALSE NEIGHBOUR: 'it returns false'. Refute it at one input. -/
def fnUnitsWrong : ChangeSpec := { name := "fnUnits", fn := fun _ => fun
  | [d1, d2] => { results := [.lit (.bool false)], args := [d1, d2] }
  | _ => none }
def FnUnitsWrongFalsely : Prop := fnUnitsRow.holds Tryz.pinned (OpenSpec.ofChange fnUnitsWrong)

/- THE SECOND FORM. 'bulk': how many values and letters a reading holds, each counted each time it is reached (what is shared counts as often as it is met; a slice's spare places count too). A statement '..UptoSaid' is the law's where the arguments, and the package variables that the reading takes, are together of bulk at most 1048576: NARROWER than '..Said'. Prove '..Said' where nothing that the law and all that it calls make is longer than what came in: it says more and counts as full. Else prove '..UptoSaid'. A law counts once. -/
mutual
def uptoBulk {H : Type} : DataW H → Nat
  | .lit (.string bytes) => bytes.length + 1
  | .lit _ => 1
  | .nil => 1
  | .ptr d => uptoBulk d + 1
  | .slice elems spare => uptoBulkAll elems + uptoBulkAll spare + 1
  | .agg parts => uptoBulkAll parts + 1
  | .iface _ d => uptoBulk d + 1
  | .map entries => uptoBulkEntries entries + 1
  | .held _ => 1
def uptoBulkAll {H : Type} : List (DataW H) → Nat
  | [] => 0
  | d :: r => uptoBulk d + uptoBulkAll r
def uptoBulkEntries {H : Type} : List (Lit × DataW H) → Nat
  | [] => 0
  | x :: r => uptoBulkEntry x + uptoBulkEntries r
def uptoBulkEntry {H : Type} : Lit × DataW H → Nat
  | (.string bytes, d) => bytes.length + uptoBulk d + 1
  | (_, d) => uptoBulk d + 1
 end
def uptoSmall : (H : Type) → List (DataW H) → Bool := fun _ ds => decide (uptoBulkAll ds ≤ 1048576)
def OpenSpec.upto (s : _root_.Go.ChangeSpec) : _root_.Go.OpenSpec := { _root_.Go.OpenSpec.ofChange s with cond := some uptoSmall }

/-- 'laws.FnMasks', WHERE WHAT IT READS IS OF BULK AT MOST 1048576: true; the input reads as it did. -/
def fnMasksUptoRow : OpenClaim := { program := "ytdicpjkdpliofaagreat", sum := "0289f901e42eece104d1f6de7a458227c3359d8985a1da2b1580560d5d3f30f2", func := "loop.example/g00389/laws.FnMasks", spec := "fnMasks", unfollowed := true, recurses := true, apart := false, narrowed := true }
def FnMasksUptoSaid : Prop := fnMasksUptoRow.holds Tryz.pinned (OpenSpec.upto fnMasksSpec)

/-- 'laws.FnBoundaries', WHERE WHAT IT READS IS OF BULK AT MOST 1048576: true; the input reads as it did. -/
def fnBoundariesUptoRow : OpenClaim := { program := "ytdicpjkdpliofaagreat", sum := "0289f901e42eece104d1f6de7a458227c3359d8985a1da2b1580560d5d3f30f2", func := "loop.example/g00389/laws.FnBoundaries", spec := "fnBoundaries", unfollowed := true, recurses := true, apart := false, narrowed := true }
def FnBoundariesUptoSaid : Prop := fnBoundariesUptoRow.holds Tryz.pinned (OpenSpec.upto fnBoundariesSpec)

/-- 'laws.FnExactPlayIrq', WHERE WHAT IT READS IS OF BULK AT MOST 1048576: true; the input reads as it did. -/
def fnExactPlayIrqUptoRow : OpenClaim := { program := "ytdicpjkdpliofaagreat", sum := "0289f901e42eece104d1f6de7a458227c3359d8985a1da2b1580560d5d3f30f2", func := "loop.example/g00389/laws.FnExactPlayIrq", spec := "fnExactPlayIrq", unfollowed := true, recurses := true, apart := false, narrowed := true }
def FnExactPlayIrqUptoSaid : Prop := fnExactPlayIrqUptoRow.holds Tryz.pinned (OpenSpec.upto fnExactPlayIrqSpec)

/-- 'laws.FnExactPlayPlain', WHERE WHAT IT READS IS OF BULK AT MOST 1048576: true; the input reads as it did. -/
def fnExactPlayPlainUptoRow : OpenClaim := { program := "ytdicpjkdpliofaagreat", sum := "0289f901e42eece104d1f6de7a458227c3359d8985a1da2b1580560d5d3f30f2", func := "loop.example/g00389/laws.FnExactPlayPlain", spec := "fnExactPlayPlain", unfollowed := true, recurses := true, apart := false, narrowed := true }
def FnExactPlayPlainUptoSaid : Prop := fnExactPlayPlainUptoRow.holds Tryz.pinned (OpenSpec.upto fnExactPlayPlainSpec)

/-- 'laws.FnExactRunRow', WHERE WHAT IT READS IS OF BULK AT MOST 1048576: true; the input reads as it did. -/
def fnExactRunRowUptoRow : OpenClaim := { program := "ytdicpjkdpliofaagreat", sum := "0289f901e42eece104d1f6de7a458227c3359d8985a1da2b1580560d5d3f30f2", func := "loop.example/g00389/laws.FnExactRunRow", spec := "fnExactRunRow", unfollowed := true, recurses := true, apart := false, narrowed := true }
def FnExactRunRowUptoSaid : Prop := fnExactRunRowUptoRow.holds Tryz.pinned (OpenSpec.upto fnExactRunRowSpec)

/-- 'laws.FnDead', WHERE WHAT IT READS IS OF BULK AT MOST 1048576: true; the input reads as it did. -/
def fnDeadUptoRow : OpenClaim := { program := "ytdicpjkdpliofaagreat", sum := "0289f901e42eece104d1f6de7a458227c3359d8985a1da2b1580560d5d3f30f2", func := "loop.example/g00389/laws.FnDead", spec := "fnDead", unfollowed := true, recurses := true, apart := false, narrowed := true }
def FnDeadUptoSaid : Prop := fnDeadUptoRow.holds Tryz.pinned (OpenSpec.upto fnDeadSpec)

/-- 'laws.FnUnits', WHERE WHAT IT READS IS OF BULK AT MOST 1048576: true; the input reads as it did. -/
def fnUnitsUptoRow : OpenClaim := { program := "ytdicpjkdpliofaagreat", sum := "0289f901e42eece104d1f6de7a458227c3359d8985a1da2b1580560d5d3f30f2", func := "loop.example/g00389/laws.FnUnits", spec := "fnUnits", unfollowed := true, recurses := true, apart := false, narrowed := true }
def FnUnitsUptoSaid : Prop := fnUnitsUptoRow.holds Tryz.pinned (OpenSpec.upto fnUnitsSpec)

end Rows
end Go.Proofs.YtdicpjkdpliofaaGreat
