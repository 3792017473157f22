/-
  No cell of these rows narrows 'for every input' (looked for: loops, veiled, ifaces, maps, wideKeys, modest, calm, conditions, laid).
  DERIVED. THE GIVEN ROWS OF THIS SEAT. 5 by the template 'for every input the law returns true; each argument reads behind the call as it read before'; 0 by the template 'total and deterministic' (their statements: YthaiplhjekkooaaTotals.lean).
  GIVEN WITH THE SEED: the statements are not yours to turn. If you find one false, say at which input.
  Laid BY PROGRAM, IN A SANDBOX (cutbox-rows.mjs): the forced cells as the released guide's own fill.sh prints them over the translation 1fe4692b376a1880… (all of the seat's roots in one cut). By AI agents, Wed Nov 11 2026. No macro, syntax, notation, axiom, sorry.
-/
import Derived.Test.YthaiplhjekkooaaChecked
import GoSem.Claim
import GoSem.ClaimJoined
import GoSem.ClaimMapViews
import Derived.JoinedTies
import Derived.KernelRfl
namespace Go.Proofs.Ythaiplhjekkooaa
/- THE CELL 'sum', in the pinned program and in every row, IS THE sha256 OF THE DUMP (.gsa) THAT YthaiplhjekkooaaProg.lean LOADS. Nothing in Lean hashes anything: it is a label: what it is worth is what the hold of that sum in a sandbox is worth. -/
noncomputable def Try.pinned : Pinned := { name := "ythaiplhjekkooaa", sum := "1fe4692b376a1880c88a5edc811645ef4b4840a8a6d0f0b2b398066375a17200", checked := Try.checked }
namespace Rows
def none {H : Type} : Left H := { results := [], args := [] }

/-- 'bootprintlaw24.DepsEdges': WHATEVER THE INPUT: true; the input reads as it did. -/
def depsEdgesSpec : ChangeSpec := { name := "depsEdges", fn := fun _ => fun
  | [d1, d2, d3] => { results := [.lit (.bool true)], args := [d1, d2, d3] }
  | _ => none }
def depsEdgesRow : OpenClaim := { program := "ythaiplhjekkooaa", sum := "1fe4692b376a1880c88a5edc811645ef4b4840a8a6d0f0b2b398066375a17200", func := "bootprint/bootprintlaw24.DepsEdges", spec := "depsEdges", unfollowed := true, recurses := true, plainKeys := false, apart := false }
def DepsEdgesSaid : Prop := depsEdgesRow.holds Try.pinned (OpenSpec.ofChange depsEdgesSpec)

/-- ITS FALSE NEIGHBOUR: 'it returns false'. Refute it at one input. -/
def depsEdgesWrong : ChangeSpec := { name := "depsEdges", fn := fun _ => fun
  | [d1, d2, d3] => { results := [.lit (.bool false)], args := [d1, d2, d3] }
  | _ => none }
def DepsEdgesWrongFalsely : Prop := depsEdgesRow.holds Try.pinned (OpenSpec.ofChange depsEdgesWrong)

/-- 'bootprintlaw24.DepsTrace': WHATEVER THE INPUT: true; the input reads as it did. -/
def depsTraceSpec : ChangeSpec := { name := "depsTrace", fn := fun _ => fun
  | [d1, d2, d3] => { results := [.lit (.bool true)], args := [d1, d2, d3] }
  | _ => none }
def depsTraceRow : OpenClaim := { program := "ythaiplhjekkooaa", sum := "1fe4692b376a1880c88a5edc811645ef4b4840a8a6d0f0b2b398066375a17200", func := "bootprint/bootprintlaw24.DepsTrace", spec := "depsTrace", unfollowed := true, recurses := true, plainKeys := false, apart := false }
def DepsTraceSaid : Prop := depsTraceRow.holds Try.pinned (OpenSpec.ofChange depsTraceSpec)

/-- ITS FALSE NEIGHBOUR: 'it returns false'. Refute it at one input. -/
def depsTraceWrong : ChangeSpec := { name := "depsTrace", fn := fun _ => fun
  | [d1, d2, d3] => { results := [.lit (.bool false)], args := [d1, d2, d3] }
  | _ => none }
def DepsTraceWrongFalsely : Prop := depsTraceRow.holds Try.pinned (OpenSpec.ofChange depsTraceWrong)

/-- 'bootprintlaw24.DepsMerge': WHATEVER THE INPUT: true; the input reads as it did. -/
def depsMergeSpec : ChangeSpec := { name := "depsMerge", fn := fun _ => fun
  | [d1, d2, d3, d4, d5] => { results := [.lit (.bool true)], args := [d1, d2, d3, d4, d5] }
  | _ => none }
def depsMergeRow : OpenClaim := { program := "ythaiplhjekkooaa", sum := "1fe4692b376a1880c88a5edc811645ef4b4840a8a6d0f0b2b398066375a17200", func := "bootprint/bootprintlaw24.DepsMerge", spec := "depsMerge", unfollowed := true, recurses := true, plainKeys := false, apart := false }
def DepsMergeSaid : Prop := depsMergeRow.holds Try.pinned (OpenSpec.ofChange depsMergeSpec)

/-- ITS FALSE NEIGHBOUR: 'it returns false'. Refute it at one input. -/
def depsMergeWrong : ChangeSpec := { name := "depsMerge", fn := fun _ => fun
  | [d1, d2, d3, d4, d5] => { results := [.lit (.bool false)], args := [d1, d2, d3, d4, d5] }
  | _ => none }
def DepsMergeWrongFalsely : Prop := depsMergeRow.holds Try.pinned (OpenSpec.ofChange depsMergeWrong)

/-- 'bootprintlaw24.DepsNames': WHATEVER THE INPUT: true; the input reads as it did. -/
def depsNamesSpec : ChangeSpec := { name := "depsNames", fn := fun _ => fun
  | [] => { results := [.lit (.bool true)], args := [] }
  | _ => none }
def depsNamesRow : OpenClaim := { program := "ythaiplhjekkooaa", sum := "1fe4692b376a1880c88a5edc811645ef4b4840a8a6d0f0b2b398066375a17200", func := "bootprint/bootprintlaw24.DepsNames", spec := "depsNames", unfollowed := true, recurses := true, plainKeys := false, apart := false }
def DepsNamesSaid : Prop := depsNamesRow.holds Try.pinned (OpenSpec.ofChange depsNamesSpec)

/-- ITS FALSE NEIGHBOUR: 'it returns false'. Refute it at one input. -/
def depsNamesWrong : ChangeSpec := { name := "depsNames", fn := fun _ => fun
  | [] => { results := [.lit (.bool false)], args := [] }
  | _ => none }
def DepsNamesWrongFalsely : Prop := depsNamesRow.holds Try.pinned (OpenSpec.ofChange depsNamesWrong)

/-- 'bootprintlaw24.DepsCalls': WHATEVER THE INPUT: true; the input reads as it did. -/
def depsCallsSpec : ChangeSpec := { name := "depsCalls", fn := fun _ => fun
  | [d1, d2, d3, d4, d5] => { results := [.lit (.bool true)], args := [d1, d2, d3, d4, d5] }
  | _ => none }
def depsCallsRow : OpenClaim := { program := "ythaiplhjekkooaa", sum := "1fe4692b376a1880c88a5edc811645ef4b4840a8a6d0f0b2b398066375a17200", func := "bootprint/bootprintlaw24.DepsCalls", spec := "depsCalls", unfollowed := true, recurses := true, plainKeys := false, apart := false }
def DepsCallsSaid : Prop := depsCallsRow.holds Try.pinned (OpenSpec.ofChange depsCallsSpec)

/-- ITS FALSE NEIGHBOUR: 'it returns false'. Refute it at one input. -/
def depsCallsWrong : ChangeSpec := { name := "depsCalls", fn := fun _ => fun
  | [d1, d2, d3, d4, d5] => { results := [.lit (.bool false)], args := [d1, d2, d3, d4, d5] }
  | _ => none }
def DepsCallsWrongFalsely : Prop := depsCallsRow.holds Try.pinned (OpenSpec.ofChange depsCallsWrong)

/- THE SECOND FORM. 'bulk': how many values and letters a reading holds, each counted each time it is reached (what is shared counts as often as it is met; a slice's spare places count too). A statement '..UptoSaid' is the law's where the arguments, and the package variables that the reading takes, are together of bulk at most 1048576: NARROWER than '..Said'. Prove '..Said' where nothing that the law and all that it calls make is longer than what came in: it says more and counts as full. Else prove '..UptoSaid'. A law counts once. -/
mutual
def uptoBulk {H : Type} : DataW H → Nat
  | .lit (.string bytes) => bytes.length + 1
  | .lit _ => 1
  | .nil => 1
  | .ptr d => uptoBulk d + 1
  | .slice elems spare => uptoBulkAll elems + uptoBulkAll spare + 1
  | .agg parts => uptoBulkAll parts + 1
  | .iface _ d => uptoBulk d + 1
  | .map entries => uptoBulkEntries entries + 1
  | .held _ => 1
def uptoBulkAll {H : Type} : List (DataW H) → Nat
  | [] => 0
  | d :: r => uptoBulk d + uptoBulkAll r
def uptoBulkEntries {H : Type} : List (Lit × DataW H) → Nat
  | [] => 0
  | x :: r => uptoBulkEntry x + uptoBulkEntries r
def uptoBulkEntry {H : Type} : Lit × DataW H → Nat
  | (.string bytes, d) => bytes.length + uptoBulk d + 1
  | (_, d) => uptoBulk d + 1
 end
def uptoSmall : (H : Type) → List (DataW H) → Bool := fun _ ds => decide (uptoBulkAll ds ≤ 1048576)
def OpenSpec.upto (s : _root_.Go.ChangeSpec) : _root_.Go.OpenSpec := { _root_.Go.OpenSpec.ofChange s with cond := some uptoSmall }

/-- 'bootprintlaw24.DepsEdges', WHERE WHAT IT READS IS OF BULK AT MOST 1048576: true; the input reads as it did. -/
def depsEdgesUptoRow : OpenClaim := { program := "ythaiplhjekkooaa", sum := "1fe4692b376a1880c88a5edc811645ef4b4840a8a6d0f0b2b398066375a17200", func := "bootprint/bootprintlaw24.DepsEdges", spec := "depsEdges", unfollowed := true, recurses := true, plainKeys := false, apart := false, narrowed := true }
def DepsEdgesUptoSaid : Prop := depsEdgesUptoRow.holds Try.pinned (OpenSpec.upto depsEdgesSpec)

/-- 'bootprintlaw24.DepsTrace', WHERE WHAT IT READS IS OF BULK AT MOST 1048576: true; the input reads as it did. -/
def depsTraceUptoRow : OpenClaim := { program := "ythaiplhjekkooaa", sum := "1fe4692b376a1880c88a5edc811645ef4b4840a8a6d0f0b2b398066375a17200", func := "bootprint/bootprintlaw24.DepsTrace", spec := "depsTrace", unfollowed := true, recurses := true, plainKeys := false, apart := false, narrowed := true }
def DepsTraceUptoSaid : Prop := depsTraceUptoRow.holds Try.pinned (OpenSpec.upto depsTraceSpec)

/-- 'bootprintlaw24.DepsMerge', WHERE WHAT IT READS IS OF BULK AT MOST 1048576: true; the input reads as it did. -/
def depsMergeUptoRow : OpenClaim := { program := "ythaiplhjekkooaa", sum := "1fe4692b376a1880c88a5edc811645ef4b4840a8a6d0f0b2b398066375a17200", func := "bootprint/bootprintlaw24.DepsMerge", spec := "depsMerge", unfollowed := true, recurses := true, plainKeys := false, apart := false, narrowed := true }
def DepsMergeUptoSaid : Prop := depsMergeUptoRow.holds Try.pinned (OpenSpec.upto depsMergeSpec)

/-- 'bootprintlaw24.DepsNames', WHERE WHAT IT READS IS OF BULK AT MOST 1048576: true; the input reads as it did. -/
def depsNamesUptoRow : OpenClaim := { program := "ythaiplhjekkooaa", sum := "1fe4692b376a1880c88a5edc811645ef4b4840a8a6d0f0b2b398066375a17200", func := "bootprint/bootprintlaw24.DepsNames", spec := "depsNames", unfollowed := true, recurses := true, plainKeys := false, apart := false, narrowed := true }
def DepsNamesUptoSaid : Prop := depsNamesUptoRow.holds Try.pinned (OpenSpec.upto depsNamesSpec)

/-- 'bootprintlaw24.DepsCalls', WHERE WHAT IT READS IS OF BULK AT MOST 1048576: true; the input reads as it did. -/
def depsCallsUptoRow : OpenClaim := { program := "ythaiplhjekkooaa", sum := "1fe4692b376a1880c88a5edc811645ef4b4840a8a6d0f0b2b398066375a17200", func := "bootprint/bootprintlaw24.DepsCalls", spec := "depsCalls", unfollowed := true, recurses := true, plainKeys := false, apart := false, narrowed := true }
def DepsCallsUptoSaid : Prop := depsCallsUptoRow.holds Try.pinned (OpenSpec.upto depsCallsSpec)

end Rows
end Go.Proofs.Ythaiplhjekkooaa
