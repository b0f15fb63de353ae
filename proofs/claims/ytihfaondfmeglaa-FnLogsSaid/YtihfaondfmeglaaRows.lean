/-
  No cell of these rows narrows 'for every input' (looked for: loops, veiled, ifaces, maps, wideKeys, modest, calm, conditions, laid).
  DERIVED. THE GIVEN ROWS OF THIS SEAT. 6 by the template 'for every input the law returns true; each argument reads behind the call as it read before'; 0 by the template 'total and deterministic' (their statements: YtihfaondfmeglaaTotals.lean).
  GIVEN WITH THE SEED: the statements are not yours to turn. If you find one false, say at which input.
  Laid BY PROGRAM, IN A SANDBOX (cutbox-rows.mjs): the forced cells as the released guide's own fill.sh prints them over the translation bfdcac033c40313e… (all of the seat's roots in one cut). By AI agents, Wed Nov 11 2026. No macro, syntax, notation, axiom, sorry.
-/
import Derived.Test.YtihfaondfmeglaaChecked
import GoSem.Claim
import GoSem.ClaimJoined
import GoSem.ClaimMapViews
import Derived.JoinedTies
import Derived.KernelRfl
namespace Go.Proofs.Ytihfaondfmeglaa
/- THE CELL 'sum', in the pinned program and in every row, IS THE sha256 OF THE DUMP (.gsa) THAT YtihfaondfmeglaaProg.lean LOADS. Nothing in Lean hashes anything: it is a label: what it is worth is what the hold of that sum in a sandbox is worth. -/
noncomputable def Try.pinned : Pinned := { name := "ytihfaondfmeglaa", sum := "bfdcac033c40313e9d98461b42f7b1234fa599fe29f87e596d69ba327671f9ca", checked := Try.checked }
namespace Rows
def none {H : Type} : Left H := { results := [], args := [] }

/-- 'laws.FnLogs': WHATEVER THE INPUT: true; the input reads as it did. -/
def fnLogsSpec : ChangeSpec := { name := "fnLogs", fn := fun _ => fun
  | [d1, d2] => { results := [.lit (.bool true)], args := [d1, d2] }
  | _ => none }
def fnLogsRow : OpenClaim := { program := "ytihfaondfmeglaa", sum := "bfdcac033c40313e9d98461b42f7b1234fa599fe29f87e596d69ba327671f9ca", func := "loop.example/g00389/laws.FnLogs", spec := "fnLogs", unfollowed := true, recurses := true, apart := false }
def FnLogsSaid : Prop := fnLogsRow.holds Try.pinned (OpenSpec.ofChange fnLogsSpec)

/-- ITS FALSE NEIGHBOUR: 'it returns false'. Refute it at one input. -/
def fnLogsWrong : ChangeSpec := { name := "fnLogs", fn := fun _ => fun
  | [d1, d2] => { results := [.lit (.bool false)], args := [d1, d2] }
  | _ => none }
def FnLogsWrongFalsely : Prop := fnLogsRow.holds Try.pinned (OpenSpec.ofChange fnLogsWrong)

/-- 'laws.FnBus': WHATEVER THE INPUT: true; the input reads as it did. -/
def fnBusSpec : ChangeSpec := { name := "fnBus", fn := fun _ => fun
  | [d1, d2] => { results := [.lit (.bool true)], args := [d1, d2] }
  | _ => none }
def fnBusRow : OpenClaim := { program := "ytihfaondfmeglaa", sum := "bfdcac033c40313e9d98461b42f7b1234fa599fe29f87e596d69ba327671f9ca", func := "loop.example/g00389/laws.FnBus", spec := "fnBus", unfollowed := true, recurses := true, apart := false }
def FnBusSaid : Prop := fnBusRow.holds Try.pinned (OpenSpec.ofChange fnBusSpec)

/-- ITS FALSE NEIGHBOUR: 'it returns false'. Refute it at one input. -/
def fnBusWrong : ChangeSpec := { name := "fnBus", fn := fun _ => fun
  | [d1, d2] => { results := [.lit (.bool false)], args := [d1, d2] }
  | _ => none }
def FnBusWrongFalsely : Prop := fnBusRow.holds Try.pinned (OpenSpec.ofChange fnBusWrong)

/-- 'laws.FnDevices': WHATEVER THE INPUT: true; the input reads as it did. -/
def fnDevicesSpec : ChangeSpec := { name := "fnDevices", fn := fun _ => fun
  | [d1, d2] => { results := [.lit (.bool true)], args := [d1, d2] }
  | _ => none }
def fnDevicesRow : OpenClaim := { program := "ytihfaondfmeglaa", sum := "bfdcac033c40313e9d98461b42f7b1234fa599fe29f87e596d69ba327671f9ca", func := "loop.example/g00389/laws.FnDevices", spec := "fnDevices", unfollowed := true, recurses := true, apart := false }
def FnDevicesSaid : Prop := fnDevicesRow.holds Try.pinned (OpenSpec.ofChange fnDevicesSpec)

/-- ITS FALSE NEIGHBOUR: 'it returns false'. Refute it at one input. -/
def fnDevicesWrong : ChangeSpec := { name := "fnDevices", fn := fun _ => fun
  | [d1, d2] => { results := [.lit (.bool false)], args := [d1, d2] }
  | _ => none }
def FnDevicesWrongFalsely : Prop := fnDevicesRow.holds Try.pinned (OpenSpec.ofChange fnDevicesWrong)

/-- 'laws.FnLazy': WHATEVER THE INPUT: true; the input reads as it did. -/
def fnLazySpec : ChangeSpec := { name := "fnLazy", fn := fun _ => fun
  | [d] => { results := [.lit (.bool true)], args := [d] }
  | _ => none }
def fnLazyRow : OpenClaim := { program := "ytihfaondfmeglaa", sum := "bfdcac033c40313e9d98461b42f7b1234fa599fe29f87e596d69ba327671f9ca", func := "loop.example/g00389/laws.FnLazy", spec := "fnLazy", unfollowed := true, recurses := true, apart := false }
def FnLazySaid : Prop := fnLazyRow.holds Try.pinned (OpenSpec.ofChange fnLazySpec)

/-- ITS FALSE NEIGHBOUR: 'it returns false'. Refute it at one input. -/
def fnLazyWrong : ChangeSpec := { name := "fnLazy", fn := fun _ => fun
  | [d] => { results := [.lit (.bool false)], args := [d] }
  | _ => none }
def FnLazyWrongFalsely : Prop := fnLazyRow.holds Try.pinned (OpenSpec.ofChange fnLazyWrong)

/-- 'laws.FnPorts': WHATEVER THE INPUT: true; the input reads as it did. -/
def fnPortsSpec : ChangeSpec := { name := "fnPorts", fn := fun _ => fun
  | [d1, d2] => { results := [.lit (.bool true)], args := [d1, d2] }
  | _ => none }
def fnPortsRow : OpenClaim := { program := "ytihfaondfmeglaa", sum := "bfdcac033c40313e9d98461b42f7b1234fa599fe29f87e596d69ba327671f9ca", func := "loop.example/g00389/laws.FnPorts", spec := "fnPorts", unfollowed := true, recurses := true, apart := false }
def FnPortsSaid : Prop := fnPortsRow.holds Try.pinned (OpenSpec.ofChange fnPortsSpec)

/-- ITS FALSE NEIGHBOUR: 'it returns false'. Refute it at one input. -/
def fnPortsWrong : ChangeSpec := { name := "fnPorts", fn := fun _ => fun
  | [d1, d2] => { results := [.lit (.bool false)], args := [d1, d2] }
  | _ => none }
def FnPortsWrongFalsely : Prop := fnPortsRow.holds Try.pinned (OpenSpec.ofChange fnPortsWrong)

/-- 'laws.FnNotes': WHATEVER THE INPUT: true; the input reads as it did. -/
def fnNotesSpec : ChangeSpec := { name := "fnNotes", fn := fun _ => fun
  | [d1, d2] => { results := [.lit (.bool true)], args := [d1, d2] }
  | _ => none }
def fnNotesRow : OpenClaim := { program := "ytihfaondfmeglaa", sum := "bfdcac033c40313e9d98461b42f7b1234fa599fe29f87e596d69ba327671f9ca", func := "loop.example/g00389/laws.FnNotes", spec := "fnNotes", unfollowed := true, recurses := true, apart := false }
def FnNotesSaid : Prop := fnNotesRow.holds Try.pinned (OpenSpec.ofChange fnNotesSpec)

/-- ITS FALSE NEIGHBOUR: 'it returns false'. Refute it at one input. -/
def fnNotesWrong : ChangeSpec := { name := "fnNotes", fn := fun _ => fun
  | [d1, d2] => { results := [.lit (.bool false)], args := [d1, d2] }
  | _ => none }
def FnNotesWrongFalsely : Prop := fnNotesRow.holds Try.pinned (OpenSpec.ofChange fnNotesWrong)

/- THE SECOND FORM. 'bulk': how many values and letters a reading holds, each counted each time it is reached (what is shared counts as often as it is met; a slice's spare places count too). A statement '..UptoSaid' is the law's where the arguments, and the package variables that the reading takes, are together of bulk at most 1048576: NARROWER than '..Said'. Prove '..Said' where nothing that the law and all that it calls make is longer than what came in: it says more and counts as full. Else prove '..UptoSaid'. A law counts once. -/
mutual
def uptoBulk {H : Type} : DataW H → Nat
  | .lit (.string bytes) => bytes.length + 1
  | .lit _ => 1
  | .nil => 1
  | .ptr d => uptoBulk d + 1
  | .slice elems spare => uptoBulkAll elems + uptoBulkAll spare + 1
  | .agg parts => uptoBulkAll parts + 1
  | .iface _ d => uptoBulk d + 1
  | .map entries => uptoBulkEntries entries + 1
  | .held _ => 1
def uptoBulkAll {H : Type} : List (DataW H) → Nat
  | [] => 0
  | d :: r => uptoBulk d + uptoBulkAll r
def uptoBulkEntries {H : Type} : List (Lit × DataW H) → Nat
  | [] => 0
  | x :: r => uptoBulkEntry x + uptoBulkEntries r
def uptoBulkEntry {H : Type} : Lit × DataW H → Nat
  | (.string bytes, d) => bytes.length + uptoBulk d + 1
  | (_, d) => uptoBulk d + 1
 end
def uptoSmall : (H : Type) → List (DataW H) → Bool := fun _ ds => decide (uptoBulkAll ds ≤ 1048576)
def OpenSpec.upto (s : _root_.Go.ChangeSpec) : _root_.Go.OpenSpec := { _root_.Go.OpenSpec.ofChange s with cond := some uptoSmall }

/-- 'laws.FnLogs', WHERE WHAT IT READS IS OF BULK AT MOST 1048576: true; the input reads as it did. -/
def fnLogsUptoRow : OpenClaim := { program := "ytihfaondfmeglaa", sum := "bfdcac033c40313e9d98461b42f7b1234fa599fe29f87e596d69ba327671f9ca", func := "loop.example/g00389/laws.FnLogs", spec := "fnLogs", unfollowed := true, recurses := true, apart := false, narrowed := true }
def FnLogsUptoSaid : Prop := fnLogsUptoRow.holds Try.pinned (OpenSpec.upto fnLogsSpec)

/-- 'laws.FnBus', WHERE WHAT IT READS IS OF BULK AT MOST 1048576: true; the input reads as it did. -/
def fnBusUptoRow : OpenClaim := { program := "ytihfaondfmeglaa", sum := "bfdcac033c40313e9d98461b42f7b1234fa599fe29f87e596d69ba327671f9ca", func := "loop.example/g00389/laws.FnBus", spec := "fnBus", unfollowed := true, recurses := true, apart := false, narrowed := true }
def FnBusUptoSaid : Prop := fnBusUptoRow.holds Try.pinned (OpenSpec.upto fnBusSpec)

/-- 'laws.FnDevices', WHERE WHAT IT READS IS OF BULK AT MOST 1048576: true; the input reads as it did. -/
def fnDevicesUptoRow : OpenClaim := { program := "ytihfaondfmeglaa", sum := "bfdcac033c40313e9d98461b42f7b1234fa599fe29f87e596d69ba327671f9ca", func := "loop.example/g00389/laws.FnDevices", spec := "fnDevices", unfollowed := true, recurses := true, apart := false, narrowed := true }
def FnDevicesUptoSaid : Prop := fnDevicesUptoRow.holds Try.pinned (OpenSpec.upto fnDevicesSpec)

/-- 'laws.FnLazy', WHERE WHAT IT READS IS OF BULK AT MOST 1048576: true; the input reads as it did. -/
def fnLazyUptoRow : OpenClaim := { program := "ytihfaondfmeglaa", sum := "bfdcac033c40313e9d98461b42f7b1234fa599fe29f87e596d69ba327671f9ca", func := "loop.example/g00389/laws.FnLazy", spec := "fnLazy", unfollowed := true, recurses := true, apart := false, narrowed := true }
def FnLazyUptoSaid : Prop := fnLazyUptoRow.holds Try.pinned (OpenSpec.upto fnLazySpec)

/-- 'laws.FnPorts', WHERE WHAT IT READS IS OF BULK AT MOST 1048576: true; the input reads as it did. -/
def fnPortsUptoRow : OpenClaim := { program := "ytihfaondfmeglaa", sum := "bfdcac033c40313e9d98461b42f7b1234fa599fe29f87e596d69ba327671f9ca", func := "loop.example/g00389/laws.FnPorts", spec := "fnPorts", unfollowed := true, recurses := true, apart := false, narrowed := true }
def FnPortsUptoSaid : Prop := fnPortsUptoRow.holds Try.pinned (OpenSpec.upto fnPortsSpec)

/-- 'laws.FnNotes', WHERE WHAT IT READS IS OF BULK AT MOST 1048576: true; the input reads as it did. -/
def fnNotesUptoRow : OpenClaim := { program := "ytihfaondfmeglaa", sum := "bfdcac033c40313e9d98461b42f7b1234fa599fe29f87e596d69ba327671f9ca", func := "loop.example/g00389/laws.FnNotes", spec := "fnNotes", unfollowed := true, recurses := true, apart := false, narrowed := true }
def FnNotesUptoSaid : Prop := fnNotesUptoRow.holds Try.pinned (OpenSpec.upto fnNotesSpec)

end Rows
end Go.Proofs.Ytihfaondfmeglaa
