/-
  No cell of these rows narrows 'for every input' (looked for: loops, veiled, ifaces, maps, wideKeys, modest, calm, conditions, laid).
  DERIVED. THE GIVEN ROWS OF THIS SEAT. 9 by the template 'for every input the law returns true; each argument reads behind the call as it read before'; 0 by the template 'total and deterministic' (their statements: YthifgakeababmaaTotals.lean).
  GIVEN WITH THE SEED: the statements are not yours to turn. If you find one false, say at which input.
  Laid BY PROGRAM, IN A SANDBOX (cutbox-rows.mjs): the forced cells as the released guide's own fill.sh prints them over the translation 5bb3b688d96d7c49… (all of the seat's roots in one cut). By AI agents, Wed Nov 11 2026. No macro, syntax, notation, axiom, sorry.
-/
import Derived.Test.YthifgakeababmaaChecked
import GoSem.Claim
import GoSem.ClaimJoined
import GoSem.ClaimMapViews
import Derived.JoinedTies
import Derived.KernelRfl
namespace Go.Proofs.Ythifgakeababmaa
/- THE CELL 'sum', in the pinned program and in every row, IS THE sha256 OF THE DUMP (.gsa) THAT YthifgakeababmaaProg.lean LOADS. Nothing in Lean hashes anything: it is a label: what it is worth is what the hold of that sum in a sandbox is worth. -/
noncomputable def Try.pinned : Pinned := { name := "ythifgakeababmaa", sum := "5bb3b688d96d7c49f0abafce7d79edc0ad60df30864353464a0446d4ed536489", checked := Try.checked }
namespace Rows
def none {H : Type} : Left H := { results := [], args := [] }

/-- 'patchbaylaw2.DampSays': WHATEVER THE INPUT: true; the input reads as it did. -/
def dampSaysSpec : ChangeSpec := { name := "dampSays", fn := fun _ => fun
  | [d1, d2, d3] => { results := [.lit (.bool true)], args := [d1, d2, d3] }
  | _ => none }
def dampSaysRow : OpenClaim := { program := "ythifgakeababmaa", sum := "5bb3b688d96d7c49f0abafce7d79edc0ad60df30864353464a0446d4ed536489", func := "patchbay/patchbaylaw2.DampSays", spec := "dampSays", apart := false }
def DampSaysSaid : Prop := dampSaysRow.holds Try.pinned (OpenSpec.ofChange dampSaysSpec)

/-- ITS FALSE NEIGHBOUR: 'it returns false'. Refute it at one input. -/
def dampSaysWrong : ChangeSpec := { name := "dampSays", fn := fun _ => fun
  | [d1, d2, d3] => { results := [.lit (.bool false)], args := [d1, d2, d3] }
  | _ => none }
def DampSaysWrongFalsely : Prop := dampSaysRow.holds Try.pinned (OpenSpec.ofChange dampSaysWrong)

/-- 'patchbaylaw2.AdvDecodes': WHATEVER THE INPUT: true; the input reads as it did. -/
def advDecodesSpec : ChangeSpec := { name := "advDecodes", fn := fun _ => fun
  | [d] => { results := [.lit (.bool true)], args := [d] }
  | _ => none }
def advDecodesRow : OpenClaim := { program := "ythifgakeababmaa", sum := "5bb3b688d96d7c49f0abafce7d79edc0ad60df30864353464a0446d4ed536489", func := "patchbay/patchbaylaw2.AdvDecodes", spec := "advDecodes", apart := false }
def AdvDecodesSaid : Prop := advDecodesRow.holds Try.pinned (OpenSpec.ofChange advDecodesSpec)

/-- ITS FALSE NEIGHBOUR: 'it returns false'. Refute it at one input. -/
def advDecodesWrong : ChangeSpec := { name := "advDecodes", fn := fun _ => fun
  | [d] => { results := [.lit (.bool false)], args := [d] }
  | _ => none }
def AdvDecodesWrongFalsely : Prop := advDecodesRow.holds Try.pinned (OpenSpec.ofChange advDecodesWrong)

/-- 'patchbaylaw2.PathDecodes': WHATEVER THE INPUT: true; the input reads as it did. -/
def pathDecodesSpec : ChangeSpec := { name := "pathDecodes", fn := fun _ => fun
  | [d] => { results := [.lit (.bool true)], args := [d] }
  | _ => none }
def pathDecodesRow : OpenClaim := { program := "ythifgakeababmaa", sum := "5bb3b688d96d7c49f0abafce7d79edc0ad60df30864353464a0446d4ed536489", func := "patchbay/patchbaylaw2.PathDecodes", spec := "pathDecodes", unfollowed := true, recurses := true, apart := false }
def PathDecodesSaid : Prop := pathDecodesRow.holds Try.pinned (OpenSpec.ofChange pathDecodesSpec)

/-- ITS FALSE NEIGHBOUR: 'it returns false'. Refute it at one input. -/
def pathDecodesWrong : ChangeSpec := { name := "pathDecodes", fn := fun _ => fun
  | [d] => { results := [.lit (.bool false)], args := [d] }
  | _ => none }
def PathDecodesWrongFalsely : Prop := pathDecodesRow.holds Try.pinned (OpenSpec.ofChange pathDecodesWrong)

/-- 'patchbaylaw2.BestSettlesTo': WHATEVER THE INPUT: true; the input reads as it did. -/
def bestSettlesToSpec : ChangeSpec := { name := "bestSettlesTo", fn := fun _ => fun
  | [d1, d2, d3] => { results := [.lit (.bool true)], args := [d1, d2, d3] }
  | _ => none }
def bestSettlesToRow : OpenClaim := { program := "ythifgakeababmaa", sum := "5bb3b688d96d7c49f0abafce7d79edc0ad60df30864353464a0446d4ed536489", func := "patchbay/patchbaylaw2.BestSettlesTo", spec := "bestSettlesTo", unfollowed := true, recurses := true, apart := false }
def BestSettlesToSaid : Prop := bestSettlesToRow.holds Try.pinned (OpenSpec.ofChange bestSettlesToSpec)

/-- ITS FALSE NEIGHBOUR: 'it returns false'. Refute it at one input. -/
def bestSettlesToWrong : ChangeSpec := { name := "bestSettlesTo", fn := fun _ => fun
  | [d1, d2, d3] => { results := [.lit (.bool false)], args := [d1, d2, d3] }
  | _ => none }
def BestSettlesToWrongFalsely : Prop := bestSettlesToRow.holds Try.pinned (OpenSpec.ofChange bestSettlesToWrong)

/-- 'patchbaylaw2.AdvStores': WHATEVER THE INPUT: true; the input reads as it did. -/
def advStoresSpec : ChangeSpec := { name := "advStores", fn := fun _ => fun
  | [d1, d2, d3] => { results := [.lit (.bool true)], args := [d1, d2, d3] }
  | _ => none }
def advStoresRow : OpenClaim := { program := "ythifgakeababmaa", sum := "5bb3b688d96d7c49f0abafce7d79edc0ad60df30864353464a0446d4ed536489", func := "patchbay/patchbaylaw2.AdvStores", spec := "advStores", unfollowed := true, recurses := true, apart := false }
def AdvStoresSaid : Prop := advStoresRow.holds Try.pinned (OpenSpec.ofChange advStoresSpec)

/-- ITS FALSE NEIGHBOUR: 'it returns false'. Refute it at one input. -/
def advStoresWrong : ChangeSpec := { name := "advStores", fn := fun _ => fun
  | [d1, d2, d3] => { results := [.lit (.bool false)], args := [d1, d2, d3] }
  | _ => none }
def AdvStoresWrongFalsely : Prop := advStoresRow.holds Try.pinned (OpenSpec.ofChange advStoresWrong)

/-- 'patchbaylaw2.PathEncodes': WHATEVER THE INPUT: true; the input reads as it did. -/
def pathEncodesSpec : ChangeSpec := { name := "pathEncodes", fn := fun _ => fun
  | [d1, d2, d3] => { results := [.lit (.bool true)], args := [d1, d2, d3] }
  | _ => none }
def pathEncodesRow : OpenClaim := { program := "ythifgakeababmaa", sum := "5bb3b688d96d7c49f0abafce7d79edc0ad60df30864353464a0446d4ed536489", func := "patchbay/patchbaylaw2.PathEncodes", spec := "pathEncodes", unfollowed := true, recurses := true, apart := false }
def PathEncodesSaid : Prop := pathEncodesRow.holds Try.pinned (OpenSpec.ofChange pathEncodesSpec)

/-- ITS FALSE NEIGHBOUR: 'it returns false'. Refute it at one input. -/
def pathEncodesWrong : ChangeSpec := { name := "pathEncodes", fn := fun _ => fun
  | [d1, d2, d3] => { results := [.lit (.bool false)], args := [d1, d2, d3] }
  | _ => none }
def PathEncodesWrongFalsely : Prop := pathEncodesRow.holds Try.pinned (OpenSpec.ofChange pathEncodesWrong)

/-- 'patchbaylaw2.BestRounds': WHATEVER THE INPUT: true; the input reads as it did. -/
def bestRoundsSpec : ChangeSpec := { name := "bestRounds", fn := fun _ => fun
  | [d1, d2, d3] => { results := [.lit (.bool true)], args := [d1, d2, d3] }
  | _ => none }
def bestRoundsRow : OpenClaim := { program := "ythifgakeababmaa", sum := "5bb3b688d96d7c49f0abafce7d79edc0ad60df30864353464a0446d4ed536489", func := "patchbay/patchbaylaw2.BestRounds", spec := "bestRounds", unfollowed := true, recurses := true, apart := false }
def BestRoundsSaid : Prop := bestRoundsRow.holds Try.pinned (OpenSpec.ofChange bestRoundsSpec)

/-- ITS FALSE NEIGHBOUR: 'it returns false'. Refute it at one input. -/
def bestRoundsWrong : ChangeSpec := { name := "bestRounds", fn := fun _ => fun
  | [d1, d2, d3] => { results := [.lit (.bool false)], args := [d1, d2, d3] }
  | _ => none }
def BestRoundsWrongFalsely : Prop := bestRoundsRow.holds Try.pinned (OpenSpec.ofChange bestRoundsWrong)

/-- 'patchbaylaw2.AreaSays': WHATEVER THE INPUT: true; the input reads as it did. -/
def areaSaysSpec : ChangeSpec := { name := "areaSays", fn := fun _ => fun
  | [d1, d2, d3] => { results := [.lit (.bool true)], args := [d1, d2, d3] }
  | _ => none }
def areaSaysRow : OpenClaim := { program := "ythifgakeababmaa", sum := "5bb3b688d96d7c49f0abafce7d79edc0ad60df30864353464a0446d4ed536489", func := "patchbay/patchbaylaw2.AreaSays", spec := "areaSays", unfollowed := true, recurses := true, apart := false }
def AreaSaysSaid : Prop := areaSaysRow.holds Try.pinned (OpenSpec.ofChange areaSaysSpec)

/-- ITS FALSE NEIGHBOUR: 'it returns false'. Refute it at one input. -/
def areaSaysWrong : ChangeSpec := { name := "areaSays", fn := fun _ => fun
  | [d1, d2, d3] => { results := [.lit (.bool false)], args := [d1, d2, d3] }
  | _ => none }
def AreaSaysWrongFalsely : Prop := areaSaysRow.holds Try.pinned (OpenSpec.ofChange areaSaysWrong)

/-- 'patchbaylaw2.AreaSums': WHATEVER THE INPUT: true; the input reads as it did. -/
def areaSumsSpec : ChangeSpec := { name := "areaSums", fn := fun _ => fun
  | [d1, d2, d3] => { results := [.lit (.bool true)], args := [d1, d2, d3] }
  | _ => none }
def areaSumsRow : OpenClaim := { program := "ythifgakeababmaa", sum := "5bb3b688d96d7c49f0abafce7d79edc0ad60df30864353464a0446d4ed536489", func := "patchbay/patchbaylaw2.AreaSums", spec := "areaSums", unfollowed := true, recurses := true, apart := false }
def AreaSumsSaid : Prop := areaSumsRow.holds Try.pinned (OpenSpec.ofChange areaSumsSpec)

/-- ITS FALSE NEIGHBOUR: 'it returns false'. Refute it at one input. -/
def areaSumsWrong : ChangeSpec := { name := "areaSums", fn := fun _ => fun
  | [d1, d2, d3] => { results := [.lit (.bool false)], args := [d1, d2, d3] }
  | _ => none }
def AreaSumsWrongFalsely : Prop := areaSumsRow.holds Try.pinned (OpenSpec.ofChange areaSumsWrong)

/- THE SECOND FORM. 'bulk': how many values and letters a reading holds, each counted each time it is reached (what is shared counts as often as it is met; a slice's spare places count too). A statement '..UptoSaid' is the law's where the arguments, and the package variables that the reading takes, are together of bulk at most 1048576: NARROWER than '..Said'. Prove '..Said' where nothing that the law and all that it calls make is longer than what came in: it says more and counts as full. Else prove '..UptoSaid'. A law counts once. -/
mutual
def uptoBulk {H : Type} : DataW H → Nat
  | .lit (.string bytes) => bytes.length + 1
  | .lit _ => 1
  | .nil => 1
  | .ptr d => uptoBulk d + 1
  | .slice elems spare => uptoBulkAll elems + uptoBulkAll spare + 1
  | .agg parts => uptoBulkAll parts + 1
  | .iface _ d => uptoBulk d + 1
  | .map entries => uptoBulkEntries entries + 1
  | .held _ => 1
def uptoBulkAll {H : Type} : List (DataW H) → Nat
  | [] => 0
  | d :: r => uptoBulk d + uptoBulkAll r
def uptoBulkEntries {H : Type} : List (Lit × DataW H) → Nat
  | [] => 0
  | x :: r => uptoBulkEntry x + uptoBulkEntries r
def uptoBulkEntry {H : Type} : Lit × DataW H → Nat
  | (.string bytes, d) => bytes.length + uptoBulk d + 1
  | (_, d) => uptoBulk d + 1
 end
def uptoSmall : (H : Type) → List (DataW H) → Bool := fun _ ds => decide (uptoBulkAll ds ≤ 1048576)
def OpenSpec.upto (s : _root_.Go.ChangeSpec) : _root_.Go.OpenSpec := { _root_.Go.OpenSpec.ofChange s with cond := some uptoSmall }

/-- 'patchbaylaw2.DampSays', WHERE WHAT IT READS IS OF BULK AT MOST 1048576: true; the input reads as it did. -/
def dampSaysUptoRow : OpenClaim := { program := "ythifgakeababmaa", sum := "5bb3b688d96d7c49f0abafce7d79edc0ad60df30864353464a0446d4ed536489", func := "patchbay/patchbaylaw2.DampSays", spec := "dampSays", apart := false, narrowed := true }
def DampSaysUptoSaid : Prop := dampSaysUptoRow.holds Try.pinned (OpenSpec.upto dampSaysSpec)

/-- 'patchbaylaw2.AdvDecodes', WHERE WHAT IT READS IS OF BULK AT MOST 1048576: true; the input reads as it did. -/
def advDecodesUptoRow : OpenClaim := { program := "ythifgakeababmaa", sum := "5bb3b688d96d7c49f0abafce7d79edc0ad60df30864353464a0446d4ed536489", func := "patchbay/patchbaylaw2.AdvDecodes", spec := "advDecodes", apart := false, narrowed := true }
def AdvDecodesUptoSaid : Prop := advDecodesUptoRow.holds Try.pinned (OpenSpec.upto advDecodesSpec)

/-- 'patchbaylaw2.PathDecodes', WHERE WHAT IT READS IS OF BULK AT MOST 1048576: true; the input reads as it did. -/
def pathDecodesUptoRow : OpenClaim := { program := "ythifgakeababmaa", sum := "5bb3b688d96d7c49f0abafce7d79edc0ad60df30864353464a0446d4ed536489", func := "patchbay/patchbaylaw2.PathDecodes", spec := "pathDecodes", unfollowed := true, recurses := true, apart := false, narrowed := true }
def PathDecodesUptoSaid : Prop := pathDecodesUptoRow.holds Try.pinned (OpenSpec.upto pathDecodesSpec)

/-- 'patchbaylaw2.BestSettlesTo', WHERE WHAT IT READS IS OF BULK AT MOST 1048576: true; the input reads as it did. -/
def bestSettlesToUptoRow : OpenClaim := { program := "ythifgakeababmaa", sum := "5bb3b688d96d7c49f0abafce7d79edc0ad60df30864353464a0446d4ed536489", func := "patchbay/patchbaylaw2.BestSettlesTo", spec := "bestSettlesTo", unfollowed := true, recurses := true, apart := false, narrowed := true }
def BestSettlesToUptoSaid : Prop := bestSettlesToUptoRow.holds Try.pinned (OpenSpec.upto bestSettlesToSpec)

/-- 'patchbaylaw2.AdvStores', WHERE WHAT IT READS IS OF BULK AT MOST 1048576: true; the input reads as it did. -/
def advStoresUptoRow : OpenClaim := { program := "ythifgakeababmaa", sum := "5bb3b688d96d7c49f0abafce7d79edc0ad60df30864353464a0446d4ed536489", func := "patchbay/patchbaylaw2.AdvStores", spec := "advStores", unfollowed := true, recurses := true, apart := false, narrowed := true }
def AdvStoresUptoSaid : Prop := advStoresUptoRow.holds Try.pinned (OpenSpec.upto advStoresSpec)

/-- 'patchbaylaw2.PathEncodes', WHERE WHAT IT READS IS OF BULK AT MOST 1048576: true; the input reads as it did. -/
def pathEncodesUptoRow : OpenClaim := { program := "ythifgakeababmaa", sum := "5bb3b688d96d7c49f0abafce7d79edc0ad60df30864353464a0446d4ed536489", func := "patchbay/patchbaylaw2.PathEncodes", spec := "pathEncodes", unfollowed := true, recurses := true, apart := false, narrowed := true }
def PathEncodesUptoSaid : Prop := pathEncodesUptoRow.holds Try.pinned (OpenSpec.upto pathEncodesSpec)

/-- 'patchbaylaw2.BestRounds', WHERE WHAT IT READS IS OF BULK AT MOST 1048576: true; the input reads as it did. -/
def bestRoundsUptoRow : OpenClaim := { program := "ythifgakeababmaa", sum := "5bb3b688d96d7c49f0abafce7d79edc0ad60df30864353464a0446d4ed536489", func := "patchbay/patchbaylaw2.BestRounds", spec := "bestRounds", unfollowed := true, recurses := true, apart := false, narrowed := true }
def BestRoundsUptoSaid : Prop := bestRoundsUptoRow.holds Try.pinned (OpenSpec.upto bestRoundsSpec)

/-- 'patchbaylaw2.AreaSays', WHERE WHAT IT READS IS OF BULK AT MOST 1048576: true; the input reads as it did. -/
def areaSaysUptoRow : OpenClaim := { program := "ythifgakeababmaa", sum := "5bb3b688d96d7c49f0abafce7d79edc0ad60df30864353464a0446d4ed536489", func := "patchbay/patchbaylaw2.AreaSays", spec := "areaSays", unfollowed := true, recurses := true, apart := false, narrowed := true }
def AreaSaysUptoSaid : Prop := areaSaysUptoRow.holds Try.pinned (OpenSpec.upto areaSaysSpec)

/-- 'patchbaylaw2.AreaSums', WHERE WHAT IT READS IS OF BULK AT MOST 1048576: true; the input reads as it did. -/
def areaSumsUptoRow : OpenClaim := { program := "ythifgakeababmaa", sum := "5bb3b688d96d7c49f0abafce7d79edc0ad60df30864353464a0446d4ed536489", func := "patchbay/patchbaylaw2.AreaSums", spec := "areaSums", unfollowed := true, recurses := true, apart := false, narrowed := true }
def AreaSumsUptoSaid : Prop := areaSumsUptoRow.holds Try.pinned (OpenSpec.upto areaSumsSpec)

end Rows
end Go.Proofs.Ythifgakeababmaa
