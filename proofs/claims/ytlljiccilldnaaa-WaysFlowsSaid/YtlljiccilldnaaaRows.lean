/-
  No cell of these rows narrows 'for every input' (looked for: loops, veiled, ifaces, maps, wideKeys, modest, calm, conditions, laid).
  DERIVED. THE GIVEN ROWS OF THIS SEAT. 6 by the template 'for every input the law returns true; each argument reads behind the call as it read before'; 0 by the template 'total and deterministic' (their statements: YtlljiccilldnaaaTotals.lean).
  GIVEN WITH THE SEED: the statements are not yours to turn. If you find one false, say at which input.
  Laid BY PROGRAM, IN A SANDBOX (cutbox-rows.mjs): the forced cells as the released guide's own fill.sh prints them over the translation da171e3f43ce304b… (all of the seat's roots in one cut). By AI agents, Wed Nov 11 2026. No macro, syntax, notation, axiom, sorry.
-/
import Derived.Test.YtlljiccilldnaaaChecked
import GoSem.Claim
import GoSem.ClaimJoined
import GoSem.ClaimMapViews
import Derived.JoinedTies
import Derived.KernelRfl
namespace Go.Proofs.Ytlljiccilldnaaa
/- THE CELL 'sum', in the pinned program and in every row, IS THE sha256 OF THE DUMP (.gsa) THAT YtlljiccilldnaaaProg.lean LOADS. Nothing in Lean hashes anything: it is a label: what it is worth is what the hold of that sum in a sandbox is worth. -/
noncomputable def Try.pinned : Pinned := { name := "ytlljiccilldnaaa", sum := "da171e3f43ce304bdf7b1c54a015bf04dd7c8efa903119e795a715cfa1a9d5bc", checked := Try.checked }
namespace Rows
def none {H : Type} : Left H := { results := [], args := [] }

/-- 'patchbaylaw2.WaysSay': WHATEVER THE INPUT: true; the input reads as it did. -/
def waysSaySpec : ChangeSpec := { name := "waysSay", fn := fun _ => fun
  | [d1, d2] => { results := [.lit (.bool true)], args := [d1, d2] }
  | _ => none }
def waysSayRow : OpenClaim := { program := "ytlljiccilldnaaa", sum := "da171e3f43ce304bdf7b1c54a015bf04dd7c8efa903119e795a715cfa1a9d5bc", func := "patchbay/patchbaylaw2.WaysSay", spec := "waysSay", unfollowed := true, recurses := true, apart := false }
def WaysSaySaid : Prop := waysSayRow.holds Try.pinned (OpenSpec.ofChange waysSaySpec)

/-- ITS FALSE NEIGHBOUR: 'it returns false'. Refute it at one input. -/
def waysSayWrong : ChangeSpec := { name := "waysSay", fn := fun _ => fun
  | [d1, d2] => { results := [.lit (.bool false)], args := [d1, d2] }
  | _ => none }
def WaysSayWrongFalsely : Prop := waysSayRow.holds Try.pinned (OpenSpec.ofChange waysSayWrong)

/-- 'patchbaylaw2.WaysFlows': WHATEVER THE INPUT: true; the input reads as it did. -/
def waysFlowsSpec : ChangeSpec := { name := "waysFlows", fn := fun _ => fun
  | [d] => { results := [.lit (.bool true)], args := [d] }
  | _ => none }
def waysFlowsRow : OpenClaim := { program := "ytlljiccilldnaaa", sum := "da171e3f43ce304bdf7b1c54a015bf04dd7c8efa903119e795a715cfa1a9d5bc", func := "patchbay/patchbaylaw2.WaysFlows", spec := "waysFlows", unfollowed := true, recurses := true, apart := false }
def WaysFlowsSaid : Prop := waysFlowsRow.holds Try.pinned (OpenSpec.ofChange waysFlowsSpec)

/-- ITS FALSE NEIGHBOUR: 'it returns false'. Refute it at one input. -/
def waysFlowsWrong : ChangeSpec := { name := "waysFlows", fn := fun _ => fun
  | [d] => { results := [.lit (.bool false)], args := [d] }
  | _ => none }
def WaysFlowsWrongFalsely : Prop := waysFlowsRow.holds Try.pinned (OpenSpec.ofChange waysFlowsWrong)

/-- 'patchbaylaw2.GroupSays': WHATEVER THE INPUT: true; the input reads as it did. -/
def groupSaysSpec : ChangeSpec := { name := "groupSays", fn := fun _ => fun
  | [d1, d2, d3, d4, d5] => { results := [.lit (.bool true)], args := [d1, d2, d3, d4, d5] }
  | _ => none }
def groupSaysRow : OpenClaim := { program := "ytlljiccilldnaaa", sum := "da171e3f43ce304bdf7b1c54a015bf04dd7c8efa903119e795a715cfa1a9d5bc", func := "patchbay/patchbaylaw2.GroupSays", spec := "groupSays", unfollowed := true, recurses := true, apart := false }
def GroupSaysSaid : Prop := groupSaysRow.holds Try.pinned (OpenSpec.ofChange groupSaysSpec)

/-- ITS FALSE NEIGHBOUR: 'it returns false'. Refute it at one input. -/
def groupSaysWrong : ChangeSpec := { name := "groupSays", fn := fun _ => fun
  | [d1, d2, d3, d4, d5] => { results := [.lit (.bool false)], args := [d1, d2, d3, d4, d5] }
  | _ => none }
def GroupSaysWrongFalsely : Prop := groupSaysRow.holds Try.pinned (OpenSpec.ofChange groupSaysWrong)

/-- 'patchbaylaw2.GroupFlows': WHATEVER THE INPUT: true; the input reads as it did. -/
def groupFlowsSpec : ChangeSpec := { name := "groupFlows", fn := fun _ => fun
  | [d1, d2, d3] => { results := [.lit (.bool true)], args := [d1, d2, d3] }
  | _ => none }
def groupFlowsRow : OpenClaim := { program := "ytlljiccilldnaaa", sum := "da171e3f43ce304bdf7b1c54a015bf04dd7c8efa903119e795a715cfa1a9d5bc", func := "patchbay/patchbaylaw2.GroupFlows", spec := "groupFlows", unfollowed := true, recurses := true, apart := false }
def GroupFlowsSaid : Prop := groupFlowsRow.holds Try.pinned (OpenSpec.ofChange groupFlowsSpec)

/-- ITS FALSE NEIGHBOUR: 'it returns false'. Refute it at one input. -/
def groupFlowsWrong : ChangeSpec := { name := "groupFlows", fn := fun _ => fun
  | [d1, d2, d3] => { results := [.lit (.bool false)], args := [d1, d2, d3] }
  | _ => none }
def GroupFlowsWrongFalsely : Prop := groupFlowsRow.holds Try.pinned (OpenSpec.ofChange groupFlowsWrong)

/-- 'patchbaylaw2.FloodStores': WHATEVER THE INPUT: true; the input reads as it did. -/
def floodStoresSpec : ChangeSpec := { name := "floodStores", fn := fun _ => fun
  | [d1, d2] => { results := [.lit (.bool true)], args := [d1, d2] }
  | _ => none }
def floodStoresRow : OpenClaim := { program := "ytlljiccilldnaaa", sum := "da171e3f43ce304bdf7b1c54a015bf04dd7c8efa903119e795a715cfa1a9d5bc", func := "patchbay/patchbaylaw2.FloodStores", spec := "floodStores", inPlace := ["slices.overlaps[patchbay/api.AdvLink]"], unfollowed := true, recurses := true, apart := false }
def FloodStoresSaid : Prop := floodStoresRow.holds Try.pinned (OpenSpec.ofChange floodStoresSpec)

/-- ITS FALSE NEIGHBOUR: 'it returns false'. Refute it at one input. -/
def floodStoresWrong : ChangeSpec := { name := "floodStores", fn := fun _ => fun
  | [d1, d2] => { results := [.lit (.bool false)], args := [d1, d2] }
  | _ => none }
def FloodStoresWrongFalsely : Prop := floodStoresRow.holds Try.pinned (OpenSpec.ofChange floodStoresWrong)

/-- 'patchbaylaw2.FloodErrors': WHATEVER THE INPUT: true; the input reads as it did. -/
def floodErrorsSpec : ChangeSpec := { name := "floodErrors", fn := fun _ => fun
  | [d1, d2, d3, d4, d5, d6] => { results := [.lit (.bool true)], args := [d1, d2, d3, d4, d5, d6] }
  | _ => none }
def floodErrorsRow : OpenClaim := { program := "ytlljiccilldnaaa", sum := "da171e3f43ce304bdf7b1c54a015bf04dd7c8efa903119e795a715cfa1a9d5bc", func := "patchbay/patchbaylaw2.FloodErrors", spec := "floodErrors", inPlace := ["slices.overlaps[patchbay/api.AdvLink]"], unfollowed := true, recurses := true, apart := false }
def FloodErrorsSaid : Prop := floodErrorsRow.holds Try.pinned (OpenSpec.ofChange floodErrorsSpec)

/-- ITS FALSE NEIGHBOUR: 'it returns false'. Refute it at one input. -/
def floodErrorsWrong : ChangeSpec := { name := "floodErrors", fn := fun _ => fun
  | [d1, d2, d3, d4, d5, d6] => { results := [.lit (.bool false)], args := [d1, d2, d3, d4, d5, d6] }
  | _ => none }
def FloodErrorsWrongFalsely : Prop := floodErrorsRow.holds Try.pinned (OpenSpec.ofChange floodErrorsWrong)

/- THE SECOND FORM. 'bulk': how many values and letters a reading holds, each counted each time it is reached (what is shared counts as often as it is met; a slice's spare places count too). A statement '..UptoSaid' is the law's where the arguments, and the package variables that the reading takes, are together of bulk at most 1048576: NARROWER than '..Said'. Prove '..Said' where nothing that the law and all that it calls make is longer than what came in: it says more and counts as full. Else prove '..UptoSaid'. A law counts once. -/
mutual
def uptoBulk {H : Type} : DataW H → Nat
  | .lit (.string bytes) => bytes.length + 1
  | .lit _ => 1
  | .nil => 1
  | .ptr d => uptoBulk d + 1
  | .slice elems spare => uptoBulkAll elems + uptoBulkAll spare + 1
  | .agg parts => uptoBulkAll parts + 1
  | .iface _ d => uptoBulk d + 1
  | .map entries => uptoBulkEntries entries + 1
  | .held _ => 1
def uptoBulkAll {H : Type} : List (DataW H) → Nat
  | [] => 0
  | d :: r => uptoBulk d + uptoBulkAll r
def uptoBulkEntries {H : Type} : List (Lit × DataW H) → Nat
  | [] => 0
  | x :: r => uptoBulkEntry x + uptoBulkEntries r
def uptoBulkEntry {H : Type} : Lit × DataW H → Nat
  | (.string bytes, d) => bytes.length + uptoBulk d + 1
  | (_, d) => uptoBulk d + 1
 end
def uptoSmall : (H : Type) → List (DataW H) → Bool := fun _ ds => decide (uptoBulkAll ds ≤ 1048576)
def OpenSpec.upto (s : _root_.Go.ChangeSpec) : _root_.Go.OpenSpec := { _root_.Go.OpenSpec.ofChange s with cond := some uptoSmall }

/-- 'patchbaylaw2.WaysSay', WHERE WHAT IT READS IS OF BULK AT MOST 1048576: true; the input reads as it did. -/
def waysSayUptoRow : OpenClaim := { program := "ytlljiccilldnaaa", sum := "da171e3f43ce304bdf7b1c54a015bf04dd7c8efa903119e795a715cfa1a9d5bc", func := "patchbay/patchbaylaw2.WaysSay", spec := "waysSay", unfollowed := true, recurses := true, apart := false, narrowed := true }
def WaysSayUptoSaid : Prop := waysSayUptoRow.holds Try.pinned (OpenSpec.upto waysSaySpec)

/-- 'patchbaylaw2.WaysFlows', WHERE WHAT IT READS IS OF BULK AT MOST 1048576: true; the input reads as it did. -/
def waysFlowsUptoRow : OpenClaim := { program := "ytlljiccilldnaaa", sum := "da171e3f43ce304bdf7b1c54a015bf04dd7c8efa903119e795a715cfa1a9d5bc", func := "patchbay/patchbaylaw2.WaysFlows", spec := "waysFlows", unfollowed := true, recurses := true, apart := false, narrowed := true }
def WaysFlowsUptoSaid : Prop := waysFlowsUptoRow.holds Try.pinned (OpenSpec.upto waysFlowsSpec)

/-- 'patchbaylaw2.GroupSays', WHERE WHAT IT READS IS OF BULK AT MOST 1048576: true; the input reads as it did. -/
def groupSaysUptoRow : OpenClaim := { program := "ytlljiccilldnaaa", sum := "da171e3f43ce304bdf7b1c54a015bf04dd7c8efa903119e795a715cfa1a9d5bc", func := "patchbay/patchbaylaw2.GroupSays", spec := "groupSays", unfollowed := true, recurses := true, apart := false, narrowed := true }
def GroupSaysUptoSaid : Prop := groupSaysUptoRow.holds Try.pinned (OpenSpec.upto groupSaysSpec)

/-- 'patchbaylaw2.GroupFlows', WHERE WHAT IT READS IS OF BULK AT MOST 1048576: true; the input reads as it did. -/
def groupFlowsUptoRow : OpenClaim := { program := "ytlljiccilldnaaa", sum := "da171e3f43ce304bdf7b1c54a015bf04dd7c8efa903119e795a715cfa1a9d5bc", func := "patchbay/patchbaylaw2.GroupFlows", spec := "groupFlows", unfollowed := true, recurses := true, apart := false, narrowed := true }
def GroupFlowsUptoSaid : Prop := groupFlowsUptoRow.holds Try.pinned (OpenSpec.upto groupFlowsSpec)

/-- 'patchbaylaw2.FloodStores', WHERE WHAT IT READS IS OF BULK AT MOST 1048576: true; the input reads as it did. -/
def floodStoresUptoRow : OpenClaim := { program := "ytlljiccilldnaaa", sum := "da171e3f43ce304bdf7b1c54a015bf04dd7c8efa903119e795a715cfa1a9d5bc", func := "patchbay/patchbaylaw2.FloodStores", spec := "floodStores", inPlace := ["slices.overlaps[patchbay/api.AdvLink]"], unfollowed := true, recurses := true, apart := false, narrowed := true }
def FloodStoresUptoSaid : Prop := floodStoresUptoRow.holds Try.pinned (OpenSpec.upto floodStoresSpec)

/-- 'patchbaylaw2.FloodErrors', WHERE WHAT IT READS IS OF BULK AT MOST 1048576: true; the input reads as it did. -/
def floodErrorsUptoRow : OpenClaim := { program := "ytlljiccilldnaaa", sum := "da171e3f43ce304bdf7b1c54a015bf04dd7c8efa903119e795a715cfa1a9d5bc", func := "patchbay/patchbaylaw2.FloodErrors", spec := "floodErrors", inPlace := ["slices.overlaps[patchbay/api.AdvLink]"], unfollowed := true, recurses := true, apart := false, narrowed := true }
def FloodErrorsUptoSaid : Prop := floodErrorsUptoRow.holds Try.pinned (OpenSpec.upto floodErrorsSpec)

end Rows
end Go.Proofs.Ytlljiccilldnaaa
