/-
  No cell of these rows narrows 'for every input' (looked for: loops, veiled, ifaces, maps, wideKeys, modest, calm, conditions, laid).
  DERIVED. THE GIVEN ROWS OF THIS SEAT. 6 by the template 'for every input the law returns true; each argument reads behind the call as it read before'; 0 by the template 'total and deterministic' (their statements: YtoflefonhegogaaTotals.lean).
  GIVEN WITH THE SEED: the statements are not yours to turn. If you find one false, say at which input.
  Laid BY PROGRAM, IN A SANDBOX (cutbox-rows.mjs): the forced cells as the released guide's own fill.sh prints them over the translation b407e578d5407192… (all of the seat's roots in one cut). By AI agents, Wed Nov 11 2026. No macro, syntax, notation, axiom, sorry.
-/
import Derived.Test.YtoflefonhegogaaChecked
import GoSem.Claim
import GoSem.ClaimJoined
import GoSem.ClaimMapViews
import Derived.JoinedTies
import Derived.KernelRfl
namespace Go.Proofs.Ytoflefonhegogaa
/- THE CELL 'sum', in the pinned program and in every row, IS THE sha256 OF THE DUMP (.gsa) THAT YtoflefonhegogaaProg.lean LOADS. Nothing in Lean hashes anything: it is a label: what it is worth is what the hold of that sum in a sandbox is worth. -/
noncomputable def Try.pinned : Pinned := { name := "ytoflefonhegogaa", sum := "b407e578d54071924c9137165f6f39c4857e80ae6713e4430e5e90d8f7553ee4", checked := Try.checked }
namespace Rows
def none {H : Type} : Left H := { results := [], args := [] }

/-- 'bootprintlaw01.WireAfter': WHATEVER THE INPUT: true; the input reads as it did. -/
def wireAfterSpec : ChangeSpec := { name := "wireAfter", fn := fun _ => fun
  | [d1, d2] => { results := [.lit (.bool true)], args := [d1, d2] }
  | _ => none }
def wireAfterRow : OpenClaim := { program := "ytoflefonhegogaa", sum := "b407e578d54071924c9137165f6f39c4857e80ae6713e4430e5e90d8f7553ee4", func := "bootprint/bootprintlaw01.WireAfter", spec := "wireAfter", apart := false }
def WireAfterSaid : Prop := wireAfterRow.holds Try.pinned (OpenSpec.ofChange wireAfterSpec)

/-- ITS FALSE NEIGHBOUR: 'it returns false'. Refute it at one input. -/
def wireAfterWrong : ChangeSpec := { name := "wireAfter", fn := fun _ => fun
  | [d1, d2] => { results := [.lit (.bool false)], args := [d1, d2] }
  | _ => none }
def WireAfterWrongFalsely : Prop := wireAfterRow.holds Try.pinned (OpenSpec.ofChange wireAfterWrong)

/-- 'bootprintlaw01.WireNames': WHATEVER THE INPUT: true; the input reads as it did. -/
def wireNamesSpec : ChangeSpec := { name := "wireNames", fn := fun _ => fun
  | [] => { results := [.lit (.bool true)], args := [] }
  | _ => none }
def wireNamesRow : OpenClaim := { program := "ytoflefonhegogaa", sum := "b407e578d54071924c9137165f6f39c4857e80ae6713e4430e5e90d8f7553ee4", func := "bootprint/bootprintlaw01.WireNames", spec := "wireNames", apart := false }
def WireNamesSaid : Prop := wireNamesRow.holds Try.pinned (OpenSpec.ofChange wireNamesSpec)

/-- ITS FALSE NEIGHBOUR: 'it returns false'. Refute it at one input. -/
def wireNamesWrong : ChangeSpec := { name := "wireNames", fn := fun _ => fun
  | [] => { results := [.lit (.bool false)], args := [] }
  | _ => none }
def WireNamesWrongFalsely : Prop := wireNamesRow.holds Try.pinned (OpenSpec.ofChange wireNamesWrong)

/-- 'bootprintlaw01.WireMakes': WHATEVER THE INPUT: true; the input reads as it did. -/
def wireMakesSpec : ChangeSpec := { name := "wireMakes", fn := fun _ => fun
  | [d1, d2, d3, d4] => { results := [.lit (.bool true)], args := [d1, d2, d3, d4] }
  | _ => none }
def wireMakesRow : OpenClaim := { program := "ytoflefonhegogaa", sum := "b407e578d54071924c9137165f6f39c4857e80ae6713e4430e5e90d8f7553ee4", func := "bootprint/bootprintlaw01.WireMakes", spec := "wireMakes", apart := false }
def WireMakesSaid : Prop := wireMakesRow.holds Try.pinned (OpenSpec.ofChange wireMakesSpec)

/-- ITS FALSE NEIGHBOUR: 'it returns false'. Refute it at one input. -/
def wireMakesWrong : ChangeSpec := { name := "wireMakes", fn := fun _ => fun
  | [d1, d2, d3, d4] => { results := [.lit (.bool false)], args := [d1, d2, d3, d4] }
  | _ => none }
def WireMakesWrongFalsely : Prop := wireMakesRow.holds Try.pinned (OpenSpec.ofChange wireMakesWrong)

/-- 'bootprintlaw01.WireFirst': WHATEVER THE INPUT: true; the input reads as it did. -/
def wireFirstSpec : ChangeSpec := { name := "wireFirst", fn := fun _ => fun
  | [d] => { results := [.lit (.bool true)], args := [d] }
  | _ => none }
def wireFirstRow : OpenClaim := { program := "ytoflefonhegogaa", sum := "b407e578d54071924c9137165f6f39c4857e80ae6713e4430e5e90d8f7553ee4", func := "bootprint/bootprintlaw01.WireFirst", spec := "wireFirst", apart := false }
def WireFirstSaid : Prop := wireFirstRow.holds Try.pinned (OpenSpec.ofChange wireFirstSpec)

/-- ITS FALSE NEIGHBOUR: 'it returns false'. Refute it at one input. -/
def wireFirstWrong : ChangeSpec := { name := "wireFirst", fn := fun _ => fun
  | [d] => { results := [.lit (.bool false)], args := [d] }
  | _ => none }
def WireFirstWrongFalsely : Prop := wireFirstRow.holds Try.pinned (OpenSpec.ofChange wireFirstWrong)

/-- 'bootprintlaw01.WireOrder': WHATEVER THE INPUT: true; the input reads as it did. -/
def wireOrderSpec : ChangeSpec := { name := "wireOrder", fn := fun _ => fun
  | [d1, d2, d3, d4] => { results := [.lit (.bool true)], args := [d1, d2, d3, d4] }
  | _ => none }
def wireOrderRow : OpenClaim := { program := "ytoflefonhegogaa", sum := "b407e578d54071924c9137165f6f39c4857e80ae6713e4430e5e90d8f7553ee4", func := "bootprint/bootprintlaw01.WireOrder", spec := "wireOrder", apart := false }
def WireOrderSaid : Prop := wireOrderRow.holds Try.pinned (OpenSpec.ofChange wireOrderSpec)

/-- ITS FALSE NEIGHBOUR: 'it returns false'. Refute it at one input. -/
def wireOrderWrong : ChangeSpec := { name := "wireOrder", fn := fun _ => fun
  | [d1, d2, d3, d4] => { results := [.lit (.bool false)], args := [d1, d2, d3, d4] }
  | _ => none }
def WireOrderWrongFalsely : Prop := wireOrderRow.holds Try.pinned (OpenSpec.ofChange wireOrderWrong)

/-- 'bootprintlaw01.WireNil': WHATEVER THE INPUT: true; the input reads as it did. -/
def wireNilSpec : ChangeSpec := { name := "wireNil", fn := fun _ => fun
  | [d] => { results := [.lit (.bool true)], args := [d] }
  | _ => none }
def wireNilRow : OpenClaim := { program := "ytoflefonhegogaa", sum := "b407e578d54071924c9137165f6f39c4857e80ae6713e4430e5e90d8f7553ee4", func := "bootprint/bootprintlaw01.WireNil", spec := "wireNil", apart := false }
def WireNilSaid : Prop := wireNilRow.holds Try.pinned (OpenSpec.ofChange wireNilSpec)

/-- ITS FALSE NEIGHBOUR: 'it returns false'. Refute it at one input. -/
def wireNilWrong : ChangeSpec := { name := "wireNil", fn := fun _ => fun
  | [d] => { results := [.lit (.bool false)], args := [d] }
  | _ => none }
def WireNilWrongFalsely : Prop := wireNilRow.holds Try.pinned (OpenSpec.ofChange wireNilWrong)

/- THE SECOND FORM. 'bulk': how many values and letters a reading holds, each counted each time it is reached (what is shared counts as often as it is met; a slice's spare places count too). A statement '..UptoSaid' is the law's where the arguments, and the package variables that the reading takes, are together of bulk at most 1048576: NARROWER than '..Said'. Prove '..Said' where nothing that the law and all that it calls make is longer than what came in: it says more and counts as full. Else prove '..UptoSaid'. A law counts once. -/
mutual
def uptoBulk {H : Type} : DataW H → Nat
  | .lit (.string bytes) => bytes.length + 1
  | .lit _ => 1
  | .nil => 1
  | .ptr d => uptoBulk d + 1
  | .slice elems spare => uptoBulkAll elems + uptoBulkAll spare + 1
  | .agg parts => uptoBulkAll parts + 1
  | .iface _ d => uptoBulk d + 1
  | .map entries => uptoBulkEntries entries + 1
  | .held _ => 1
def uptoBulkAll {H : Type} : List (DataW H) → Nat
  | [] => 0
  | d :: r => uptoBulk d + uptoBulkAll r
def uptoBulkEntries {H : Type} : List (Lit × DataW H) → Nat
  | [] => 0
  | x :: r => uptoBulkEntry x + uptoBulkEntries r
def uptoBulkEntry {H : Type} : Lit × DataW H → Nat
  | (.string bytes, d) => bytes.length + uptoBulk d + 1
  | (_, d) => uptoBulk d + 1
 end
def uptoSmall : (H : Type) → List (DataW H) → Bool := fun _ ds => decide (uptoBulkAll ds ≤ 1048576)
def OpenSpec.upto (s : _root_.Go.ChangeSpec) : _root_.Go.OpenSpec := { _root_.Go.OpenSpec.ofChange s with cond := some uptoSmall }

/-- 'bootprintlaw01.WireAfter', WHERE WHAT IT READS IS OF BULK AT MOST 1048576: true; the input reads as it did. -/
def wireAfterUptoRow : OpenClaim := { program := "ytoflefonhegogaa", sum := "b407e578d54071924c9137165f6f39c4857e80ae6713e4430e5e90d8f7553ee4", func := "bootprint/bootprintlaw01.WireAfter", spec := "wireAfter", apart := false, narrowed := true }
def WireAfterUptoSaid : Prop := wireAfterUptoRow.holds Try.pinned (OpenSpec.upto wireAfterSpec)

/-- 'bootprintlaw01.WireNames', WHERE WHAT IT READS IS OF BULK AT MOST 1048576: true; the input reads as it did. -/
def wireNamesUptoRow : OpenClaim := { program := "ytoflefonhegogaa", sum := "b407e578d54071924c9137165f6f39c4857e80ae6713e4430e5e90d8f7553ee4", func := "bootprint/bootprintlaw01.WireNames", spec := "wireNames", apart := false, narrowed := true }
def WireNamesUptoSaid : Prop := wireNamesUptoRow.holds Try.pinned (OpenSpec.upto wireNamesSpec)

/-- 'bootprintlaw01.WireMakes', WHERE WHAT IT READS IS OF BULK AT MOST 1048576: true; the input reads as it did. -/
def wireMakesUptoRow : OpenClaim := { program := "ytoflefonhegogaa", sum := "b407e578d54071924c9137165f6f39c4857e80ae6713e4430e5e90d8f7553ee4", func := "bootprint/bootprintlaw01.WireMakes", spec := "wireMakes", apart := false, narrowed := true }
def WireMakesUptoSaid : Prop := wireMakesUptoRow.holds Try.pinned (OpenSpec.upto wireMakesSpec)

/-- 'bootprintlaw01.WireFirst', WHERE WHAT IT READS IS OF BULK AT MOST 1048576: true; the input reads as it did. -/
def wireFirstUptoRow : OpenClaim := { program := "ytoflefonhegogaa", sum := "b407e578d54071924c9137165f6f39c4857e80ae6713e4430e5e90d8f7553ee4", func := "bootprint/bootprintlaw01.WireFirst", spec := "wireFirst", apart := false, narrowed := true }
def WireFirstUptoSaid : Prop := wireFirstUptoRow.holds Try.pinned (OpenSpec.upto wireFirstSpec)

/-- 'bootprintlaw01.WireOrder', WHERE WHAT IT READS IS OF BULK AT MOST 1048576: true; the input reads as it did. -/
def wireOrderUptoRow : OpenClaim := { program := "ytoflefonhegogaa", sum := "b407e578d54071924c9137165f6f39c4857e80ae6713e4430e5e90d8f7553ee4", func := "bootprint/bootprintlaw01.WireOrder", spec := "wireOrder", apart := false, narrowed := true }
def WireOrderUptoSaid : Prop := wireOrderUptoRow.holds Try.pinned (OpenSpec.upto wireOrderSpec)

/-- 'bootprintlaw01.WireNil', WHERE WHAT IT READS IS OF BULK AT MOST 1048576: true; the input reads as it did. -/
def wireNilUptoRow : OpenClaim := { program := "ytoflefonhegogaa", sum := "b407e578d54071924c9137165f6f39c4857e80ae6713e4430e5e90d8f7553ee4", func := "bootprint/bootprintlaw01.WireNil", spec := "wireNil", apart := false, narrowed := true }
def WireNilUptoSaid : Prop := wireNilUptoRow.holds Try.pinned (OpenSpec.upto wireNilSpec)

end Rows
end Go.Proofs.Ytoflefonhegogaa
