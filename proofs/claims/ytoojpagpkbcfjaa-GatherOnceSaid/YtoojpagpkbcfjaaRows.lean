/-
  No cell of these rows narrows 'for every input' (looked for: loops, veiled, ifaces, maps, wideKeys, modest, calm, conditions, laid).
  DERIVED. THE GIVEN ROWS OF THIS SEAT. 4 by the template 'for every input the law returns true; each argument reads behind the call as it read before'; 0 by the template 'total and deterministic' (their statements: YtoojpagpkbcfjaaTotals.lean).
  GIVEN WITH THE SEED: the statements are not yours to turn. If you find one false, say at which input.
  Laid BY PROGRAM, IN A SANDBOX (cutbox-rows.mjs): the forced cells as the released guide's own fill.sh prints them over the translation bccae62e7cf4986e… (all of the seat's roots in one cut). By AI agents, Wed Nov 11 2026. No macro, syntax, notation, axiom, sorry.
-/
import Derived.Test.YtoojpagpkbcfjaaChecked
import GoSem.Claim
import GoSem.ClaimJoined
import GoSem.ClaimMapViews
import Derived.JoinedTies
import Derived.KernelRfl
namespace Go.Proofs.Ytoojpagpkbcfjaa
/- THE CELL 'sum', in the pinned program and in every row, IS THE sha256 OF THE DUMP (.gsa) THAT YtoojpagpkbcfjaaProg.lean LOADS. Nothing in Lean hashes anything: it is a label: what it is worth is what the hold of that sum in a sandbox is worth. -/
noncomputable def Try.pinned : Pinned := { name := "ytoojpagpkbcfjaa", sum := "bccae62e7cf4986e5959418a52c7b4b03eb61dbb610ad1e208120100c0926139", checked := Try.checked }
namespace Rows
def none {H : Type} : Left H := { results := [], args := [] }

/-- 'bootprintlaw20.GatherTicks': WHATEVER THE INPUT: true; the input reads as it did. -/
def gatherTicksSpec : ChangeSpec := { name := "gatherTicks", fn := fun _ => fun
  | [d1, d2, d3] => { results := [.lit (.bool true)], args := [d1, d2, d3] }
  | _ => none }
def gatherTicksRow : OpenClaim := { program := "ytoojpagpkbcfjaa", sum := "bccae62e7cf4986e5959418a52c7b4b03eb61dbb610ad1e208120100c0926139", func := "bootprint/bootprintlaw20.GatherTicks", spec := "gatherTicks", unfollowed := true, recurses := true, plainKeys := false, apart := false }
def GatherTicksSaid : Prop := gatherTicksRow.holds Try.pinned (OpenSpec.ofChange gatherTicksSpec)

/-- ITS FALSE NEIGHBOUR: 'it returns false'. Refute it at one input. -/
def gatherTicksWrong : ChangeSpec := { name := "gatherTicks", fn := fun _ => fun
  | [d1, d2, d3] => { results := [.lit (.bool false)], args := [d1, d2, d3] }
  | _ => none }
def GatherTicksWrongFalsely : Prop := gatherTicksRow.holds Try.pinned (OpenSpec.ofChange gatherTicksWrong)

/-- 'bootprintlaw20.GatherNames': WHATEVER THE INPUT: true; the input reads as it did. -/
def gatherNamesSpec : ChangeSpec := { name := "gatherNames", fn := fun _ => fun
  | [] => { results := [.lit (.bool true)], args := [] }
  | _ => none }
def gatherNamesRow : OpenClaim := { program := "ytoojpagpkbcfjaa", sum := "bccae62e7cf4986e5959418a52c7b4b03eb61dbb610ad1e208120100c0926139", func := "bootprint/bootprintlaw20.GatherNames", spec := "gatherNames", unfollowed := true, recurses := true, plainKeys := false, apart := false }
def GatherNamesSaid : Prop := gatherNamesRow.holds Try.pinned (OpenSpec.ofChange gatherNamesSpec)

/-- ITS FALSE NEIGHBOUR: 'it returns false'. Refute it at one input. -/
def gatherNamesWrong : ChangeSpec := { name := "gatherNames", fn := fun _ => fun
  | [] => { results := [.lit (.bool false)], args := [] }
  | _ => none }
def GatherNamesWrongFalsely : Prop := gatherNamesRow.holds Try.pinned (OpenSpec.ofChange gatherNamesWrong)

/-- 'bootprintlaw20.GatherOnce': WHATEVER THE INPUT: true; the input reads as it did. -/
def gatherOnceSpec : ChangeSpec := { name := "gatherOnce", fn := fun _ => fun
  | [d1, d2] => { results := [.lit (.bool true)], args := [d1, d2] }
  | _ => none }
def gatherOnceRow : OpenClaim := { program := "ytoojpagpkbcfjaa", sum := "bccae62e7cf4986e5959418a52c7b4b03eb61dbb610ad1e208120100c0926139", func := "bootprint/bootprintlaw20.GatherOnce", spec := "gatherOnce", unfollowed := true, recurses := true, plainKeys := false, apart := false }
def GatherOnceSaid : Prop := gatherOnceRow.holds Try.pinned (OpenSpec.ofChange gatherOnceSpec)

/-- ITS FALSE NEIGHBOUR: 'it returns false'. Refute it at one input. -/
def gatherOnceWrong : ChangeSpec := { name := "gatherOnce", fn := fun _ => fun
  | [d1, d2] => { results := [.lit (.bool false)], args := [d1, d2] }
  | _ => none }
def GatherOnceWrongFalsely : Prop := gatherOnceRow.holds Try.pinned (OpenSpec.ofChange gatherOnceWrong)

/-- 'bootprintlaw20.GatherNil': WHATEVER THE INPUT: true; the input reads as it did. -/
def gatherNilSpec : ChangeSpec := { name := "gatherNil", fn := fun _ => fun
  | [d] => { results := [.lit (.bool true)], args := [d] }
  | _ => none }
def gatherNilRow : OpenClaim := { program := "ytoojpagpkbcfjaa", sum := "bccae62e7cf4986e5959418a52c7b4b03eb61dbb610ad1e208120100c0926139", func := "bootprint/bootprintlaw20.GatherNil", spec := "gatherNil", unfollowed := true, recurses := true, plainKeys := false, apart := false }
def GatherNilSaid : Prop := gatherNilRow.holds Try.pinned (OpenSpec.ofChange gatherNilSpec)

/-- ITS FALSE NEIGHBOUR: 'it returns false'. Refute it at one input. -/
def gatherNilWrong : ChangeSpec := { name := "gatherNil", fn := fun _ => fun
  | [d] => { results := [.lit (.bool false)], args := [d] }
  | _ => none }
def GatherNilWrongFalsely : Prop := gatherNilRow.holds Try.pinned (OpenSpec.ofChange gatherNilWrong)

/- THE SECOND FORM. 'bulk': how many values and letters a reading holds, each counted each time it is reached (what is shared counts as often as it is met; a slice's spare places count too). A statement '..UptoSaid' is the law's where the arguments, and the package variables that the reading takes, are together of bulk at most 1048576: NARROWER than '..Said'. Prove '..Said' where nothing that the law and all that it calls make is longer than what came in: it says more and counts as full. Else prove '..UptoSaid'. A law counts once. -/
mutual
def uptoBulk {H : Type} : DataW H → Nat
  | .lit (.string bytes) => bytes.length + 1
  | .lit _ => 1
  | .nil => 1
  | .ptr d => uptoBulk d + 1
  | .slice elems spare => uptoBulkAll elems + uptoBulkAll spare + 1
  | .agg parts => uptoBulkAll parts + 1
  | .iface _ d => uptoBulk d + 1
  | .map entries => uptoBulkEntries entries + 1
  | .held _ => 1
def uptoBulkAll {H : Type} : List (DataW H) → Nat
  | [] => 0
  | d :: r => uptoBulk d + uptoBulkAll r
def uptoBulkEntries {H : Type} : List (Lit × DataW H) → Nat
  | [] => 0
  | x :: r => uptoBulkEntry x + uptoBulkEntries r
def uptoBulkEntry {H : Type} : Lit × DataW H → Nat
  | (.string bytes, d) => bytes.length + uptoBulk d + 1
  | (_, d) => uptoBulk d + 1
 end
def uptoSmall : (H : Type) → List (DataW H) → Bool := fun _ ds => decide (uptoBulkAll ds ≤ 1048576)
def OpenSpec.upto (s : _root_.Go.ChangeSpec) : _root_.Go.OpenSpec := { _root_.Go.OpenSpec.ofChange s with cond := some uptoSmall }

/-- 'bootprintlaw20.GatherTicks', WHERE WHAT IT READS IS OF BULK AT MOST 1048576: true; the input reads as it did. -/
def gatherTicksUptoRow : OpenClaim := { program := "ytoojpagpkbcfjaa", sum := "bccae62e7cf4986e5959418a52c7b4b03eb61dbb610ad1e208120100c0926139", func := "bootprint/bootprintlaw20.GatherTicks", spec := "gatherTicks", unfollowed := true, recurses := true, plainKeys := false, apart := false, narrowed := true }
def GatherTicksUptoSaid : Prop := gatherTicksUptoRow.holds Try.pinned (OpenSpec.upto gatherTicksSpec)

/-- 'bootprintlaw20.GatherNames', WHERE WHAT IT READS IS OF BULK AT MOST 1048576: true; the input reads as it did. -/
def gatherNamesUptoRow : OpenClaim := { program := "ytoojpagpkbcfjaa", sum := "bccae62e7cf4986e5959418a52c7b4b03eb61dbb610ad1e208120100c0926139", func := "bootprint/bootprintlaw20.GatherNames", spec := "gatherNames", unfollowed := true, recurses := true, plainKeys := false, apart := false, narrowed := true }
def GatherNamesUptoSaid : Prop := gatherNamesUptoRow.holds Try.pinned (OpenSpec.upto gatherNamesSpec)

/-- 'bootprintlaw20.GatherOnce', WHERE WHAT IT READS IS OF BULK AT MOST 1048576: true; the input reads as it did. -/
def gatherOnceUptoRow : OpenClaim := { program := "ytoojpagpkbcfjaa", sum := "bccae62e7cf4986e5959418a52c7b4b03eb61dbb610ad1e208120100c0926139", func := "bootprint/bootprintlaw20.GatherOnce", spec := "gatherOnce", unfollowed := true, recurses := true, plainKeys := false, apart := false, narrowed := true }
def GatherOnceUptoSaid : Prop := gatherOnceUptoRow.holds Try.pinned (OpenSpec.upto gatherOnceSpec)

/-- 'bootprintlaw20.GatherNil', WHERE WHAT IT READS IS OF BULK AT MOST 1048576: true; the input reads as it did. -/
def gatherNilUptoRow : OpenClaim := { program := "ytoojpagpkbcfjaa", sum := "bccae62e7cf4986e5959418a52c7b4b03eb61dbb610ad1e208120100c0926139", func := "bootprint/bootprintlaw20.GatherNil", spec := "gatherNil", unfollowed := true, recurses := true, plainKeys := false, apart := false, narrowed := true }
def GatherNilUptoSaid : Prop := gatherNilUptoRow.holds Try.pinned (OpenSpec.upto gatherNilSpec)

end Rows
end Go.Proofs.Ytoojpagpkbcfjaa
