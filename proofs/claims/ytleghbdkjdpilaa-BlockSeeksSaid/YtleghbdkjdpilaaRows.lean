/-
  No cell of these rows narrows 'for every input' (looked for: loops, veiled, ifaces, maps, wideKeys, modest, calm, conditions, laid).
  DERIVED. THE GIVEN ROWS OF THIS SEAT. 3 by the template 'for every input the law returns true; each argument reads behind the call as it read before'; 0 by the template 'total and deterministic' (their statements: YtleghbdkjdpilaaTotals.lean).
  GIVEN WITH THE SEED: the statements are not yours to turn. If you find one false, say at which input.
  Laid BY PROGRAM, IN A SANDBOX (cutbox-rows.mjs): the forced cells as the released guide's own fill.sh prints them over the translation 70710b92fb1f1aae… (all of the seat's roots in one cut). By AI agents, Wed Nov 11 2026. No macro, syntax, notation, axiom, sorry.
-/
import Derived.Test.YtleghbdkjdpilaaChecked
import GoSem.Claim
import GoSem.ClaimJoined
import GoSem.ClaimMapViews
import Derived.JoinedTies
import Derived.KernelRfl
namespace Go.Proofs.Ytleghbdkjdpilaa
/- THE CELL 'sum', in the pinned program and in every row, IS THE sha256 OF THE DUMP (.gsa) THAT YtleghbdkjdpilaaProg.lean LOADS. Nothing in Lean hashes anything: it is a label: what it is worth is what the hold of that sum in a sandbox is worth. -/
noncomputable def Try.pinned : Pinned := { name := "ytleghbdkjdpilaa", sum := "70710b92fb1f1aae1b41de2e0dcfc60472dcdc8d414b3c4a81c9d3be39e2dc29", checked := Try.checked }
namespace Rows
def none {H : Type} : Left H := { results := [], args := [] }

/-- 'bootprintlaw08.BlockSeeks': WHATEVER THE INPUT: true; the input reads as it did. -/
def blockSeeksSpec : ChangeSpec := { name := "blockSeeks", fn := fun _ => fun
  | [d1, d2] => { results := [.lit (.bool true)], args := [d1, d2] }
  | _ => none }
def blockSeeksRow : OpenClaim := { program := "ytleghbdkjdpilaa", sum := "70710b92fb1f1aae1b41de2e0dcfc60472dcdc8d414b3c4a81c9d3be39e2dc29", func := "bootprint/bootprintlaw08.BlockSeeks", spec := "blockSeeks", inPlace := ["internal/bytealg.Compare"], apart := false }
def BlockSeeksSaid : Prop := blockSeeksRow.holds Try.pinned (OpenSpec.ofChange blockSeeksSpec)

/-- ITS FALSE NEIGHBOUR: 'it returns false'. Refute it at one input. -/
def blockSeeksWrong : ChangeSpec := { name := "blockSeeks", fn := fun _ => fun
  | [d1, d2] => { results := [.lit (.bool false)], args := [d1, d2] }
  | _ => none }
def BlockSeeksWrongFalsely : Prop := blockSeeksRow.holds Try.pinned (OpenSpec.ofChange blockSeeksWrong)

/-- 'bootprintlaw08.BlockNames': WHATEVER THE INPUT: true; the input reads as it did. -/
def blockNamesSpec : ChangeSpec := { name := "blockNames", fn := fun _ => fun
  | [] => { results := [.lit (.bool true)], args := [] }
  | _ => none }
def blockNamesRow : OpenClaim := { program := "ytleghbdkjdpilaa", sum := "70710b92fb1f1aae1b41de2e0dcfc60472dcdc8d414b3c4a81c9d3be39e2dc29", func := "bootprint/bootprintlaw08.BlockNames", spec := "blockNames", inPlace := ["internal/bytealg.Compare"], apart := false }
def BlockNamesSaid : Prop := blockNamesRow.holds Try.pinned (OpenSpec.ofChange blockNamesSpec)

/-- ITS FALSE NEIGHBOUR: 'it returns false'. Refute it at one input. -/
def blockNamesWrong : ChangeSpec := { name := "blockNames", fn := fun _ => fun
  | [] => { results := [.lit (.bool false)], args := [] }
  | _ => none }
def BlockNamesWrongFalsely : Prop := blockNamesRow.holds Try.pinned (OpenSpec.ofChange blockNamesWrong)

/-- 'bootprintlaw08.BlockBack': WHATEVER THE INPUT: true; the input reads as it did. -/
def blockBackSpec : ChangeSpec := { name := "blockBack", fn := fun _ => fun
  | [d1, d2, d3] => { results := [.lit (.bool true)], args := [d1, d2, d3] }
  | _ => none }
def blockBackRow : OpenClaim := { program := "ytleghbdkjdpilaa", sum := "70710b92fb1f1aae1b41de2e0dcfc60472dcdc8d414b3c4a81c9d3be39e2dc29", func := "bootprint/bootprintlaw08.BlockBack", spec := "blockBack", inPlace := ["internal/bytealg.Compare"], apart := false }
def BlockBackSaid : Prop := blockBackRow.holds Try.pinned (OpenSpec.ofChange blockBackSpec)

/-- ITS FALSE NEIGHBOUR: 'it returns false'. Refute it at one input. -/
def blockBackWrong : ChangeSpec := { name := "blockBack", fn := fun _ => fun
  | [d1, d2, d3] => { results := [.lit (.bool false)], args := [d1, d2, d3] }
  | _ => none }
def BlockBackWrongFalsely : Prop := blockBackRow.holds Try.pinned (OpenSpec.ofChange blockBackWrong)

/- THE SECOND FORM. 'bulk': how many values and letters a reading holds, each counted each time it is reached (what is shared counts as often as it is met; a slice's spare places count too). A statement '..UptoSaid' is the law's where the arguments, and the package variables that the reading takes, are together of bulk at most 1048576: NARROWER than '..Said'. Prove '..Said' where nothing that the law and all that it calls make is longer than what came in: it says more and counts as full. Else prove '..UptoSaid'. A law counts once. -/
mutual
def uptoBulk {H : Type} : DataW H → Nat
  | .lit (.string bytes) => bytes.length + 1
  | .lit _ => 1
  | .nil => 1
  | .ptr d => uptoBulk d + 1
  | .slice elems spare => uptoBulkAll elems + uptoBulkAll spare + 1
  | .agg parts => uptoBulkAll parts + 1
  | .iface _ d => uptoBulk d + 1
  | .map entries => uptoBulkEntries entries + 1
  | .held _ => 1
def uptoBulkAll {H : Type} : List (DataW H) → Nat
  | [] => 0
  | d :: r => uptoBulk d + uptoBulkAll r
def uptoBulkEntries {H : Type} : List (Lit × DataW H) → Nat
  | [] => 0
  | x :: r => uptoBulkEntry x + uptoBulkEntries r
def uptoBulkEntry {H : Type} : Lit × DataW H → Nat
  | (.string bytes, d) => bytes.length + uptoBulk d + 1
  | (_, d) => uptoBulk d + 1
 end
def uptoSmall : (H : Type) → List (DataW H) → Bool := fun _ ds => decide (uptoBulkAll ds ≤ 1048576)
def OpenSpec.upto (s : _root_.Go.ChangeSpec) : _root_.Go.OpenSpec := { _root_.Go.OpenSpec.ofChange s with cond := some uptoSmall }

/-- 'bootprintlaw08.BlockSeeks', WHERE WHAT IT READS IS OF BULK AT MOST 1048576: true; the input reads as it did. -/
def blockSeeksUptoRow : OpenClaim := { program := "ytleghbdkjdpilaa", sum := "70710b92fb1f1aae1b41de2e0dcfc60472dcdc8d414b3c4a81c9d3be39e2dc29", func := "bootprint/bootprintlaw08.BlockSeeks", spec := "blockSeeks", inPlace := ["internal/bytealg.Compare"], apart := false, narrowed := true }
def BlockSeeksUptoSaid : Prop := blockSeeksUptoRow.holds Try.pinned (OpenSpec.upto blockSeeksSpec)

/-- 'bootprintlaw08.BlockNames', WHERE WHAT IT READS IS OF BULK AT MOST 1048576: true; the input reads as it did. -/
def blockNamesUptoRow : OpenClaim := { program := "ytleghbdkjdpilaa", sum := "70710b92fb1f1aae1b41de2e0dcfc60472dcdc8d414b3c4a81c9d3be39e2dc29", func := "bootprint/bootprintlaw08.BlockNames", spec := "blockNames", inPlace := ["internal/bytealg.Compare"], apart := false, narrowed := true }
def BlockNamesUptoSaid : Prop := blockNamesUptoRow.holds Try.pinned (OpenSpec.upto blockNamesSpec)

/-- 'bootprintlaw08.BlockBack', WHERE WHAT IT READS IS OF BULK AT MOST 1048576: true; the input reads as it did. -/
def blockBackUptoRow : OpenClaim := { program := "ytleghbdkjdpilaa", sum := "70710b92fb1f1aae1b41de2e0dcfc60472dcdc8d414b3c4a81c9d3be39e2dc29", func := "bootprint/bootprintlaw08.BlockBack", spec := "blockBack", inPlace := ["internal/bytealg.Compare"], apart := false, narrowed := true }
def BlockBackUptoSaid : Prop := blockBackUptoRow.holds Try.pinned (OpenSpec.upto blockBackSpec)

end Rows
end Go.Proofs.Ytleghbdkjdpilaa
