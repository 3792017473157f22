/-
  No cell of these rows narrows 'for every input' (looked for: loops, veiled, ifaces, maps, wideKeys, modest, calm, conditions, laid).
  DERIVED. THE GIVEN ROWS OF THIS SEAT. 4 by the template 'for every input the law returns true; each argument reads behind the call as it read before'; 0 by the template 'total and deterministic' (their statements: YtchpekidnbdpdaaTotals.lean).
  GIVEN WITH THE SEED: the statements are not yours to turn. If you find one false, say at which input.
  Laid BY PROGRAM, IN A SANDBOX (cutbox-rows.mjs): the forced cells as the released guide's own fill.sh prints them over the translation cf145da5454aaf3d… (all of the seat's roots in one cut). By AI agents, Wed Nov 11 2026. No macro, syntax, notation, axiom, sorry.
-/
import Derived.Test.YtchpekidnbdpdaaChecked
import GoSem.Claim
import GoSem.ClaimJoined
import GoSem.ClaimMapViews
import Derived.JoinedTies
import Derived.KernelRfl
namespace Go.Proofs.Ytchpekidnbdpdaa
/- THE CELL 'sum', in the pinned program and in every row, IS THE sha256 OF THE DUMP (.gsa) THAT YtchpekidnbdpdaaProg.lean LOADS. Nothing in Lean hashes anything: it is a label: what it is worth is what the hold of that sum in a sandbox is worth. -/
noncomputable def Try.pinned : Pinned := { name := "ytchpekidnbdpdaa", sum := "cf145da5454aaf3dbef64a6c79d3efa29c353b0fe912b061d13fe369b86dd136", checked := Try.checked }
namespace Rows
def none {H : Type} : Left H := { results := [], args := [] }

/-- 'bootprintlaw21.AdjustNames': WHATEVER THE INPUT: true; the input reads as it did. -/
def adjustNamesSpec : ChangeSpec := { name := "adjustNames", fn := fun _ => fun
  | [] => { results := [.lit (.bool true)], args := [] }
  | _ => none }
def adjustNamesRow : OpenClaim := { program := "ytchpekidnbdpdaa", sum := "cf145da5454aaf3dbef64a6c79d3efa29c353b0fe912b061d13fe369b86dd136", func := "bootprint/bootprintlaw21.AdjustNames", spec := "adjustNames", unfollowed := true, recurses := true, apart := false }
def AdjustNamesSaid : Prop := adjustNamesRow.holds Try.pinned (OpenSpec.ofChange adjustNamesSpec)

/-- ITS FALSE NEIGHBOUR: 'it returns false'. Refute it at one input. -/
def adjustNamesWrong : ChangeSpec := { name := "adjustNames", fn := fun _ => fun
  | [] => { results := [.lit (.bool false)], args := [] }
  | _ => none }
def AdjustNamesWrongFalsely : Prop := adjustNamesRow.holds Try.pinned (OpenSpec.ofChange adjustNamesWrong)

/-- 'bootprintlaw21.AdjustCalls': WHATEVER THE INPUT: true; the input reads as it did. -/
def adjustCallsSpec : ChangeSpec := { name := "adjustCalls", fn := fun _ => fun
  | [d] => { results := [.lit (.bool true)], args := [d] }
  | _ => none }
def adjustCallsRow : OpenClaim := { program := "ytchpekidnbdpdaa", sum := "cf145da5454aaf3dbef64a6c79d3efa29c353b0fe912b061d13fe369b86dd136", func := "bootprint/bootprintlaw21.AdjustCalls", spec := "adjustCalls", unfollowed := true, recurses := true, apart := false }
def AdjustCallsSaid : Prop := adjustCallsRow.holds Try.pinned (OpenSpec.ofChange adjustCallsSpec)

/-- ITS FALSE NEIGHBOUR: 'it returns false'. Refute it at one input. -/
def adjustCallsWrong : ChangeSpec := { name := "adjustCalls", fn := fun _ => fun
  | [d] => { results := [.lit (.bool false)], args := [d] }
  | _ => none }
def AdjustCallsWrongFalsely : Prop := adjustCallsRow.holds Try.pinned (OpenSpec.ofChange adjustCallsWrong)

/-- 'bootprintlaw21.AdjustOrder': WHATEVER THE INPUT: true; the input reads as it did. -/
def adjustOrderSpec : ChangeSpec := { name := "adjustOrder", fn := fun _ => fun
  | [d1, d2] => { results := [.lit (.bool true)], args := [d1, d2] }
  | _ => none }
def adjustOrderRow : OpenClaim := { program := "ytchpekidnbdpdaa", sum := "cf145da5454aaf3dbef64a6c79d3efa29c353b0fe912b061d13fe369b86dd136", func := "bootprint/bootprintlaw21.AdjustOrder", spec := "adjustOrder", unfollowed := true, recurses := true, apart := false }
def AdjustOrderSaid : Prop := adjustOrderRow.holds Try.pinned (OpenSpec.ofChange adjustOrderSpec)

/-- ITS FALSE NEIGHBOUR: 'it returns false'. Refute it at one input. -/
def adjustOrderWrong : ChangeSpec := { name := "adjustOrder", fn := fun _ => fun
  | [d1, d2] => { results := [.lit (.bool false)], args := [d1, d2] }
  | _ => none }
def AdjustOrderWrongFalsely : Prop := adjustOrderRow.holds Try.pinned (OpenSpec.ofChange adjustOrderWrong)

/-- 'bootprintlaw21.AdjustTree': WHATEVER THE INPUT: true; the input reads as it did. -/
def adjustTreeSpec : ChangeSpec := { name := "adjustTree", fn := fun _ => fun
  | [d] => { results := [.lit (.bool true)], args := [d] }
  | _ => none }
def adjustTreeRow : OpenClaim := { program := "ytchpekidnbdpdaa", sum := "cf145da5454aaf3dbef64a6c79d3efa29c353b0fe912b061d13fe369b86dd136", func := "bootprint/bootprintlaw21.AdjustTree", spec := "adjustTree", unfollowed := true, recurses := true, apart := false }
def AdjustTreeSaid : Prop := adjustTreeRow.holds Try.pinned (OpenSpec.ofChange adjustTreeSpec)

/-- ITS FALSE NEIGHBOUR: 'it returns false'. Refute it at one input. -/
def adjustTreeWrong : ChangeSpec := { name := "adjustTree", fn := fun _ => fun
  | [d] => { results := [.lit (.bool false)], args := [d] }
  | _ => none }
def AdjustTreeWrongFalsely : Prop := adjustTreeRow.holds Try.pinned (OpenSpec.ofChange adjustTreeWrong)

/- THE SECOND FORM. 'bulk': how many values and letters a reading holds, each counted each time it is reached (what is shared counts as often as it is met; a slice's spare places count too). A statement '..UptoSaid' is the law's where the arguments, and the package variables that the reading takes, are together of bulk at most 1048576: NARROWER than '..Said'. Prove '..Said' where nothing that the law and all that it calls make is longer than what came in: it says more and counts as full. Else prove '..UptoSaid'. A law counts once. -/
mutual
def uptoBulk {H : Type} : DataW H → Nat
  | .lit (.string bytes) => bytes.length + 1
  | .lit _ => 1
  | .nil => 1
  | .ptr d => uptoBulk d + 1
  | .slice elems spare => uptoBulkAll elems + uptoBulkAll spare + 1
  | .agg parts => uptoBulkAll parts + 1
  | .iface _ d => uptoBulk d + 1
  | .map entries => uptoBulkEntries entries + 1
  | .held _ => 1
def uptoBulkAll {H : Type} : List (DataW H) → Nat
  | [] => 0
  | d :: r => uptoBulk d + uptoBulkAll r
def uptoBulkEntries {H : Type} : List (Lit × DataW H) → Nat
  | [] => 0
  | x :: r => uptoBulkEntry x + uptoBulkEntries r
def uptoBulkEntry {H : Type} : Lit × DataW H → Nat
  | (.string bytes, d) => bytes.length + uptoBulk d + 1
  | (_, d) => uptoBulk d + 1
 end
def uptoSmall : (H : Type) → List (DataW H) → Bool := fun _ ds => decide (uptoBulkAll ds ≤ 1048576)
def OpenSpec.upto (s : _root_.Go.ChangeSpec) : _root_.Go.OpenSpec := { _root_.Go.OpenSpec.ofChange s with cond := some uptoSmall }

/-- 'bootprintlaw21.AdjustNames', WHERE WHAT IT READS IS OF BULK AT MOST 1048576: true; the input reads as it did. -/
def adjustNamesUptoRow : OpenClaim := { program := "ytchpekidnbdpdaa", sum := "cf145da5454aaf3dbef64a6c79d3efa29c353b0fe912b061d13fe369b86dd136", func := "bootprint/bootprintlaw21.AdjustNames", spec := "adjustNames", unfollowed := true, recurses := true, apart := false, narrowed := true }
def AdjustNamesUptoSaid : Prop := adjustNamesUptoRow.holds Try.pinned (OpenSpec.upto adjustNamesSpec)

/-- 'bootprintlaw21.AdjustCalls', WHERE WHAT IT READS IS OF BULK AT MOST 1048576: true; the input reads as it did. -/
def adjustCallsUptoRow : OpenClaim := { program := "ytchpekidnbdpdaa", sum := "cf145da5454aaf3dbef64a6c79d3efa29c353b0fe912b061d13fe369b86dd136", func := "bootprint/bootprintlaw21.AdjustCalls", spec := "adjustCalls", unfollowed := true, recurses := true, apart := false, narrowed := true }
def AdjustCallsUptoSaid : Prop := adjustCallsUptoRow.holds Try.pinned (OpenSpec.upto adjustCallsSpec)

/-- 'bootprintlaw21.AdjustOrder', WHERE WHAT IT READS IS OF BULK AT MOST 1048576: true; the input reads as it did. -/
def adjustOrderUptoRow : OpenClaim := { program := "ytchpekidnbdpdaa", sum := "cf145da5454aaf3dbef64a6c79d3efa29c353b0fe912b061d13fe369b86dd136", func := "bootprint/bootprintlaw21.AdjustOrder", spec := "adjustOrder", unfollowed := true, recurses := true, apart := false, narrowed := true }
def AdjustOrderUptoSaid : Prop := adjustOrderUptoRow.holds Try.pinned (OpenSpec.upto adjustOrderSpec)

/-- 'bootprintlaw21.AdjustTree', WHERE WHAT IT READS IS OF BULK AT MOST 1048576: true; the input reads as it did. -/
def adjustTreeUptoRow : OpenClaim := { program := "ytchpekidnbdpdaa", sum := "cf145da5454aaf3dbef64a6c79d3efa29c353b0fe912b061d13fe369b86dd136", func := "bootprint/bootprintlaw21.AdjustTree", spec := "adjustTree", unfollowed := true, recurses := true, apart := false, narrowed := true }
def AdjustTreeUptoSaid : Prop := adjustTreeUptoRow.holds Try.pinned (OpenSpec.upto adjustTreeSpec)

end Rows
end Go.Proofs.Ytchpekidnbdpdaa
