/-
  No cell of these rows narrows 'for every input' (looked for: loops, veiled, ifaces, maps, wideKeys, modest, calm, conditions, laid).
  DERIVED. THE GIVEN ROWS OF THIS SEAT. 3 by the template 'for every input the law returns true; each argument reads behind the call as it read before'; 0 by the template 'total and deterministic' (their statements: YtccpjjpceokodaaTotals.lean).
  GIVEN WITH THE SEED: the statements are not yours to turn. If you find one false, say at which input.
  Laid BY PROGRAM, IN A SANDBOX (cutbox-rows.mjs): the forced cells as the released guide's own fill.sh prints them over the translation 494bd3042a01fb21… (all of the seat's roots in one cut). By AI agents, Wed Nov 11 2026. No macro, syntax, notation, axiom, sorry.
-/
import Derived.Test.YtccpjjpceokodaaChecked
import GoSem.Claim
import GoSem.ClaimJoined
import GoSem.ClaimMapViews
import Derived.JoinedTies
import Derived.KernelRfl
namespace Go.Proofs.Ytccpjjpceokodaa
/- THE CELL 'sum', in the pinned program and in every row, IS THE sha256 OF THE DUMP (.gsa) THAT YtccpjjpceokodaaProg.lean LOADS. Nothing in Lean hashes anything: it is a label: what it is worth is what the hold of that sum in a sandbox is worth. -/
noncomputable def Try.pinned : Pinned := { name := "ytccpjjpceokodaa", sum := "494bd3042a01fb21e9d3557eb6ee5667a65f5ac49be36542e17f45a2e097f48b", checked := Try.checked }
namespace Rows
def none {H : Type} : Left H := { results := [], args := [] }

/-- 'bootprintlaw09.BloomNames': WHATEVER THE INPUT: true; the input reads as it did. -/
def bloomNamesSpec : ChangeSpec := { name := "bloomNames", fn := fun _ => fun
  | [] => { results := [.lit (.bool true)], args := [] }
  | _ => none }
def bloomNamesRow : OpenClaim := { program := "ytccpjjpceokodaa", sum := "494bd3042a01fb21e9d3557eb6ee5667a65f5ac49be36542e17f45a2e097f48b", func := "bootprint/bootprintlaw09.BloomNames", spec := "bloomNames", unfollowed := true, recurses := true, apart := false }
def BloomNamesSaid : Prop := bloomNamesRow.holds Try.pinned (OpenSpec.ofChange bloomNamesSpec)

/-- ITS FALSE NEIGHBOUR: 'it returns false'. Refute it at one input. -/
def bloomNamesWrong : ChangeSpec := { name := "bloomNames", fn := fun _ => fun
  | [] => { results := [.lit (.bool false)], args := [] }
  | _ => none }
def BloomNamesWrongFalsely : Prop := bloomNamesRow.holds Try.pinned (OpenSpec.ofChange bloomNamesWrong)

/-- 'bootprintlaw09.BloomKeeps': WHATEVER THE INPUT: true; the input reads as it did. -/
def bloomKeepsSpec : ChangeSpec := { name := "bloomKeeps", fn := fun _ => fun
  | [d1, d2, d3] => { results := [.lit (.bool true)], args := [d1, d2, d3] }
  | _ => none }
def bloomKeepsRow : OpenClaim := { program := "ytccpjjpceokodaa", sum := "494bd3042a01fb21e9d3557eb6ee5667a65f5ac49be36542e17f45a2e097f48b", func := "bootprint/bootprintlaw09.BloomKeeps", spec := "bloomKeeps", unfollowed := true, recurses := true, apart := false }
def BloomKeepsSaid : Prop := bloomKeepsRow.holds Try.pinned (OpenSpec.ofChange bloomKeepsSpec)

/-- ITS FALSE NEIGHBOUR: 'it returns false'. Refute it at one input. -/
def bloomKeepsWrong : ChangeSpec := { name := "bloomKeeps", fn := fun _ => fun
  | [d1, d2, d3] => { results := [.lit (.bool false)], args := [d1, d2, d3] }
  | _ => none }
def BloomKeepsWrongFalsely : Prop := bloomKeepsRow.holds Try.pinned (OpenSpec.ofChange bloomKeepsWrong)

/-- 'bootprintlaw09.BloomCalls': WHATEVER THE INPUT: true; the input reads as it did. -/
def bloomCallsSpec : ChangeSpec := { name := "bloomCalls", fn := fun _ => fun
  | [d1, d2, d3, d4, d5, d6, d7] => { results := [.lit (.bool true)], args := [d1, d2, d3, d4, d5, d6, d7] }
  | _ => none }
def bloomCallsRow : OpenClaim := { program := "ytccpjjpceokodaa", sum := "494bd3042a01fb21e9d3557eb6ee5667a65f5ac49be36542e17f45a2e097f48b", func := "bootprint/bootprintlaw09.BloomCalls", spec := "bloomCalls", unfollowed := true, recurses := true, apart := false }
def BloomCallsSaid : Prop := bloomCallsRow.holds Try.pinned (OpenSpec.ofChange bloomCallsSpec)

/-- ITS FALSE NEIGHBOUR: 'it returns false'. Refute it at one input. -/
def bloomCallsWrong : ChangeSpec := { name := "bloomCalls", fn := fun _ => fun
  | [d1, d2, d3, d4, d5, d6, d7] => { results := [.lit (.bool false)], args := [d1, d2, d3, d4, d5, d6, d7] }
  | _ => none }
def BloomCallsWrongFalsely : Prop := bloomCallsRow.holds Try.pinned (OpenSpec.ofChange bloomCallsWrong)

/- THE SECOND FORM. 'bulk': how many values and letters a reading holds, each counted each time it is reached (what is shared counts as often as it is met; a slice's spare places count too). A statement '..UptoSaid' is the law's where the arguments, and the package variables that the reading takes, are together of bulk at most 1048576: NARROWER than '..Said'. Prove '..Said' where nothing that the law and all that it calls make is longer than what came in: it says more and counts as full. Else prove '..UptoSaid'. A law counts once. -/
mutual
def uptoBulk {H : Type} : DataW H → Nat
  | .lit (.string bytes) => bytes.length + 1
  | .lit _ => 1
  | .nil => 1
  | .ptr d => uptoBulk d + 1
  | .slice elems spare => uptoBulkAll elems + uptoBulkAll spare + 1
  | .agg parts => uptoBulkAll parts + 1
  | .iface _ d => uptoBulk d + 1
  | .map entries => uptoBulkEntries entries + 1
  | .held _ => 1
def uptoBulkAll {H : Type} : List (DataW H) → Nat
  | [] => 0
  | d :: r => uptoBulk d + uptoBulkAll r
def uptoBulkEntries {H : Type} : List (Lit × DataW H) → Nat
  | [] => 0
  | x :: r => uptoBulkEntry x + uptoBulkEntries r
def uptoBulkEntry {H : Type} : Lit × DataW H → Nat
  | (.string bytes, d) => bytes.length + uptoBulk d + 1
  | (_, d) => uptoBulk d + 1
 end
def uptoSmall : (H : Type) → List (DataW H) → Bool := fun _ ds => decide (uptoBulkAll ds ≤ 1048576)
def OpenSpec.upto (s : _root_.Go.ChangeSpec) : _root_.Go.OpenSpec := { _root_.Go.OpenSpec.ofChange s with cond := some uptoSmall }

/-- 'bootprintlaw09.BloomNames', WHERE WHAT IT READS IS OF BULK AT MOST 1048576: true; the input reads as it did. -/
def bloomNamesUptoRow : OpenClaim := { program := "ytccpjjpceokodaa", sum := "494bd3042a01fb21e9d3557eb6ee5667a65f5ac49be36542e17f45a2e097f48b", func := "bootprint/bootprintlaw09.BloomNames", spec := "bloomNames", unfollowed := true, recurses := true, apart := false, narrowed := true }
def BloomNamesUptoSaid : Prop := bloomNamesUptoRow.holds Try.pinned (OpenSpec.upto bloomNamesSpec)

/-- 'bootprintlaw09.BloomKeeps', WHERE WHAT IT READS IS OF BULK AT MOST 1048576: true; the input reads as it did. -/
def bloomKeepsUptoRow : OpenClaim := { program := "ytccpjjpceokodaa", sum := "494bd3042a01fb21e9d3557eb6ee5667a65f5ac49be36542e17f45a2e097f48b", func := "bootprint/bootprintlaw09.BloomKeeps", spec := "bloomKeeps", unfollowed := true, recurses := true, apart := false, narrowed := true }
def BloomKeepsUptoSaid : Prop := bloomKeepsUptoRow.holds Try.pinned (OpenSpec.upto bloomKeepsSpec)

/-- 'bootprintlaw09.BloomCalls', WHERE WHAT IT READS IS OF BULK AT MOST 1048576: true; the input reads as it did. -/
def bloomCallsUptoRow : OpenClaim := { program := "ytccpjjpceokodaa", sum := "494bd3042a01fb21e9d3557eb6ee5667a65f5ac49be36542e17f45a2e097f48b", func := "bootprint/bootprintlaw09.BloomCalls", spec := "bloomCalls", unfollowed := true, recurses := true, apart := false, narrowed := true }
def BloomCallsUptoSaid : Prop := bloomCallsUptoRow.holds Try.pinned (OpenSpec.upto bloomCallsSpec)

end Rows
end Go.Proofs.Ytccpjjpceokodaa
