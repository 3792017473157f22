/-
  No cell of these rows narrows 'for every input' (looked for: loops, veiled, ifaces, maps, wideKeys, modest, calm, conditions, laid).
  DERIVED. THE GIVEN ROWS OF THIS SEAT. 5 by the template 'for every input the law returns true; each argument reads behind the call as it read before'; 0 by the template 'total and deterministic' (their statements: YtlamebbolioljaaTotals.lean).
  GIVEN WITH THE SEED: the statements are not yours to turn. If you find one false, say at which input.
  Laid BY PROGRAM, IN A SANDBOX (cutbox-rows.mjs): the forced cells as the released guide's own fill.sh prints them over the translation 5ec593842f7cc3d2… (all of the seat's roots in one cut). By AI agents, Wed Nov 11 2026. No macro, syntax, notation, axiom, sorry.
-/
import Derived.Test.YtlamebbolioljaaChecked
import GoSem.Claim
import GoSem.ClaimJoined
import GoSem.ClaimMapViews
import Derived.JoinedTies
import Derived.KernelRfl
namespace Go.Proofs.Ytlamebbolioljaa
/- THE CELL 'sum', in the pinned program and in every row, IS THE sha256 OF THE DUMP (.gsa) THAT YtlamebbolioljaaProg.lean LOADS. Nothing in Lean hashes anything: it is a label: what it is worth is what the hold of that sum in a sandbox is worth. -/
noncomputable def Try.pinned : Pinned := { name := "ytlamebbolioljaa", sum := "5ec593842f7cc3d26a538b7e0302cb3d29e5e46021369678e16cb58319fe96e5", checked := Try.checked }
namespace Rows
def none {H : Type} : Left H := { results := [], args := [] }

/-- 'bootprintlaw23.SchemaKeys': WHATEVER THE INPUT: true; the input reads as it did. -/
def schemaKeysSpec : ChangeSpec := { name := "schemaKeys", fn := fun _ => fun
  | [d1, d2, d3] => { results := [.lit (.bool true)], args := [d1, d2, d3] }
  | _ => none }
def schemaKeysRow : OpenClaim := { program := "ytlamebbolioljaa", sum := "5ec593842f7cc3d26a538b7e0302cb3d29e5e46021369678e16cb58319fe96e5", func := "bootprint/bootprintlaw23.SchemaKeys", spec := "schemaKeys", unfollowed := true, recurses := true, apart := false }
def SchemaKeysSaid : Prop := schemaKeysRow.holds Try.pinned (OpenSpec.ofChange schemaKeysSpec)

/-- ITS FALSE NEIGHBOUR: 'it returns false'. Refute it at one input. -/
def schemaKeysWrong : ChangeSpec := { name := "schemaKeys", fn := fun _ => fun
  | [d1, d2, d3] => { results := [.lit (.bool false)], args := [d1, d2, d3] }
  | _ => none }
def SchemaKeysWrongFalsely : Prop := schemaKeysRow.holds Try.pinned (OpenSpec.ofChange schemaKeysWrong)

/-- 'bootprintlaw23.SchemaNames': WHATEVER THE INPUT: true; the input reads as it did. -/
def schemaNamesSpec : ChangeSpec := { name := "schemaNames", fn := fun _ => fun
  | [] => { results := [.lit (.bool true)], args := [] }
  | _ => none }
def schemaNamesRow : OpenClaim := { program := "ytlamebbolioljaa", sum := "5ec593842f7cc3d26a538b7e0302cb3d29e5e46021369678e16cb58319fe96e5", func := "bootprint/bootprintlaw23.SchemaNames", spec := "schemaNames", unfollowed := true, recurses := true, apart := false }
def SchemaNamesSaid : Prop := schemaNamesRow.holds Try.pinned (OpenSpec.ofChange schemaNamesSpec)

/-- ITS FALSE NEIGHBOUR: 'it returns false'. Refute it at one input. -/
def schemaNamesWrong : ChangeSpec := { name := "schemaNames", fn := fun _ => fun
  | [] => { results := [.lit (.bool false)], args := [] }
  | _ => none }
def SchemaNamesWrongFalsely : Prop := schemaNamesRow.holds Try.pinned (OpenSpec.ofChange schemaNamesWrong)

/-- 'bootprintlaw23.SchemaWrites': WHATEVER THE INPUT: true; the input reads as it did. -/
def schemaWritesSpec : ChangeSpec := { name := "schemaWrites", fn := fun _ => fun
  | [d] => { results := [.lit (.bool true)], args := [d] }
  | _ => none }
def schemaWritesRow : OpenClaim := { program := "ytlamebbolioljaa", sum := "5ec593842f7cc3d26a538b7e0302cb3d29e5e46021369678e16cb58319fe96e5", func := "bootprint/bootprintlaw23.SchemaWrites", spec := "schemaWrites", unfollowed := true, recurses := true, apart := false }
def SchemaWritesSaid : Prop := schemaWritesRow.holds Try.pinned (OpenSpec.ofChange schemaWritesSpec)

/-- ITS FALSE NEIGHBOUR: 'it returns false'. Refute it at one input. -/
def schemaWritesWrong : ChangeSpec := { name := "schemaWrites", fn := fun _ => fun
  | [d] => { results := [.lit (.bool false)], args := [d] }
  | _ => none }
def SchemaWritesWrongFalsely : Prop := schemaWritesRow.holds Try.pinned (OpenSpec.ofChange schemaWritesWrong)

/-- 'bootprintlaw23.SchemaApart': WHATEVER THE INPUT: true; the input reads as it did. -/
def schemaApartSpec : ChangeSpec := { name := "schemaApart", fn := fun _ => fun
  | [d1, d2] => { results := [.lit (.bool true)], args := [d1, d2] }
  | _ => none }
def schemaApartRow : OpenClaim := { program := "ytlamebbolioljaa", sum := "5ec593842f7cc3d26a538b7e0302cb3d29e5e46021369678e16cb58319fe96e5", func := "bootprint/bootprintlaw23.SchemaApart", spec := "schemaApart", unfollowed := true, recurses := true, apart := false }
def SchemaApartSaid : Prop := schemaApartRow.holds Try.pinned (OpenSpec.ofChange schemaApartSpec)

/-- ITS FALSE NEIGHBOUR: 'it returns false'. Refute it at one input. -/
def schemaApartWrong : ChangeSpec := { name := "schemaApart", fn := fun _ => fun
  | [d1, d2] => { results := [.lit (.bool false)], args := [d1, d2] }
  | _ => none }
def SchemaApartWrongFalsely : Prop := schemaApartRow.holds Try.pinned (OpenSpec.ofChange schemaApartWrong)

/-- 'bootprintlaw23.SchemaBack': WHATEVER THE INPUT: true; the input reads as it did. -/
def schemaBackSpec : ChangeSpec := { name := "schemaBack", fn := fun _ => fun
  | [d1, d2, d3, d4] => { results := [.lit (.bool true)], args := [d1, d2, d3, d4] }
  | _ => none }
def schemaBackRow : OpenClaim := { program := "ytlamebbolioljaa", sum := "5ec593842f7cc3d26a538b7e0302cb3d29e5e46021369678e16cb58319fe96e5", func := "bootprint/bootprintlaw23.SchemaBack", spec := "schemaBack", unfollowed := true, recurses := true, apart := false }
def SchemaBackSaid : Prop := schemaBackRow.holds Try.pinned (OpenSpec.ofChange schemaBackSpec)

/-- ITS FALSE NEIGHBOUR: 'it returns false'. Refute it at one input. -/
def schemaBackWrong : ChangeSpec := { name := "schemaBack", fn := fun _ => fun
  | [d1, d2, d3, d4] => { results := [.lit (.bool false)], args := [d1, d2, d3, d4] }
  | _ => none }
def SchemaBackWrongFalsely : Prop := schemaBackRow.holds Try.pinned (OpenSpec.ofChange schemaBackWrong)

/- THE SECOND FORM. 'bulk': how many values and letters a reading holds, each counted each time it is reached (what is shared counts as often as it is met; a slice's spare places count too). A statement '..UptoSaid' is the law's where the arguments, and the package variables that the reading takes, are together of bulk at most 1048576: NARROWER than '..Said'. Prove '..Said' where nothing that the law and all that it calls make is longer than what came in: it says more and counts as full. Else prove '..UptoSaid'. A law counts once. -/
mutual
def uptoBulk {H : Type} : DataW H → Nat
  | .lit (.string bytes) => bytes.length + 1
  | .lit _ => 1
  | .nil => 1
  | .ptr d => uptoBulk d + 1
  | .slice elems spare => uptoBulkAll elems + uptoBulkAll spare + 1
  | .agg parts => uptoBulkAll parts + 1
  | .iface _ d => uptoBulk d + 1
  | .map entries => uptoBulkEntries entries + 1
  | .held _ => 1
def uptoBulkAll {H : Type} : List (DataW H) → Nat
  | [] => 0
  | d :: r => uptoBulk d + uptoBulkAll r
def uptoBulkEntries {H : Type} : List (Lit × DataW H) → Nat
  | [] => 0
  | x :: r => uptoBulkEntry x + uptoBulkEntries r
def uptoBulkEntry {H : Type} : Lit × DataW H → Nat
  | (.string bytes, d) => bytes.length + uptoBulk d + 1
  | (_, d) => uptoBulk d + 1
 end
def uptoSmall : (H : Type) → List (DataW H) → Bool := fun _ ds => decide (uptoBulkAll ds ≤ 1048576)
def OpenSpec.upto (s : _root_.Go.ChangeSpec) : _root_.Go.OpenSpec := { _root_.Go.OpenSpec.ofChange s with cond := some uptoSmall }

/-- 'bootprintlaw23.SchemaKeys', WHERE WHAT IT READS IS OF BULK AT MOST 1048576: true; the input reads as it did. -/
def schemaKeysUptoRow : OpenClaim := { program := "ytlamebbolioljaa", sum := "5ec593842f7cc3d26a538b7e0302cb3d29e5e46021369678e16cb58319fe96e5", func := "bootprint/bootprintlaw23.SchemaKeys", spec := "schemaKeys", unfollowed := true, recurses := true, apart := false, narrowed := true }
def SchemaKeysUptoSaid : Prop := schemaKeysUptoRow.holds Try.pinned (OpenSpec.upto schemaKeysSpec)

/-- 'bootprintlaw23.SchemaNames', WHERE WHAT IT READS IS OF BULK AT MOST 1048576: true; the input reads as it did. -/
def schemaNamesUptoRow : OpenClaim := { program := "ytlamebbolioljaa", sum := "5ec593842f7cc3d26a538b7e0302cb3d29e5e46021369678e16cb58319fe96e5", func := "bootprint/bootprintlaw23.SchemaNames", spec := "schemaNames", unfollowed := true, recurses := true, apart := false, narrowed := true }
def SchemaNamesUptoSaid : Prop := schemaNamesUptoRow.holds Try.pinned (OpenSpec.upto schemaNamesSpec)

/-- 'bootprintlaw23.SchemaWrites', WHERE WHAT IT READS IS OF BULK AT MOST 1048576: true; the input reads as it did. -/
def schemaWritesUptoRow : OpenClaim := { program := "ytlamebbolioljaa", sum := "5ec593842f7cc3d26a538b7e0302cb3d29e5e46021369678e16cb58319fe96e5", func := "bootprint/bootprintlaw23.SchemaWrites", spec := "schemaWrites", unfollowed := true, recurses := true, apart := false, narrowed := true }
def SchemaWritesUptoSaid : Prop := schemaWritesUptoRow.holds Try.pinned (OpenSpec.upto schemaWritesSpec)

/-- 'bootprintlaw23.SchemaApart', WHERE WHAT IT READS IS OF BULK AT MOST 1048576: true; the input reads as it did. -/
def schemaApartUptoRow : OpenClaim := { program := "ytlamebbolioljaa", sum := "5ec593842f7cc3d26a538b7e0302cb3d29e5e46021369678e16cb58319fe96e5", func := "bootprint/bootprintlaw23.SchemaApart", spec := "schemaApart", unfollowed := true, recurses := true, apart := false, narrowed := true }
def SchemaApartUptoSaid : Prop := schemaApartUptoRow.holds Try.pinned (OpenSpec.upto schemaApartSpec)

/-- 'bootprintlaw23.SchemaBack', WHERE WHAT IT READS IS OF BULK AT MOST 1048576: true; the input reads as it did. -/
def schemaBackUptoRow : OpenClaim := { program := "ytlamebbolioljaa", sum := "5ec593842f7cc3d26a538b7e0302cb3d29e5e46021369678e16cb58319fe96e5", func := "bootprint/bootprintlaw23.SchemaBack", spec := "schemaBack", unfollowed := true, recurses := true, apart := false, narrowed := true }
def SchemaBackUptoSaid : Prop := schemaBackUptoRow.holds Try.pinned (OpenSpec.upto schemaBackSpec)

end Rows
end Go.Proofs.Ytlamebbolioljaa
