/-
  No cell of these rows narrows 'for every input' (looked for: loops, veiled, ifaces, maps, wideKeys, modest, calm, conditions, laid).
  DERIVED. THE GIVEN ROWS OF THIS SEAT. 5 by the template 'for every input the law returns true; each argument reads behind the call as it read before'; 0 by the template 'total and deterministic' (their statements: YtdjmmdhjjdnbdaaTotals.lean).
  GIVEN WITH THE SEED: the statements are not yours to turn. If you find one false, say at which input.
  Laid BY PROGRAM, IN A SANDBOX (cutbox-rows.mjs): the forced cells as the released guide's own fill.sh prints them over the translation 0bba78e8a397ad60… (all of the seat's roots in one cut). By AI agents, Wed Nov 11 2026. No macro, syntax, notation, axiom, sorry.
-/
import Derived.Test.YtdjmmdhjjdnbdaaChecked
import GoSem.Claim
import GoSem.ClaimJoined
import GoSem.ClaimMapViews
import Derived.JoinedTies
import Derived.KernelRfl
namespace Go.Proofs.Ytdjmmdhjjdnbdaa
/- THE CELL 'sum', in the pinned program and in every row, IS THE sha256 OF THE DUMP (.gsa) THAT YtdjmmdhjjdnbdaaProg.lean LOADS. Nothing in Lean hashes anything: it is a label: what it is worth is what the hold of that sum in a sandbox is worth. -/
noncomputable def Try.pinned : Pinned := { name := "ytdjmmdhjjdnbdaa", sum := "0bba78e8a397ad6026f7a7201d34e335e3140bb2f909b5f95058c7a64aed620d", checked := Try.checked }
namespace Rows
def none {H : Type} : Left H := { results := [], args := [] }

/-- 'bootprintlaw04.VfsName': WHATEVER THE INPUT: true; the input reads as it did. -/
def vfsNameSpec : ChangeSpec := { name := "vfsName", fn := fun _ => fun
  | [d] => { results := [.lit (.bool true)], args := [d] }
  | _ => none }
def vfsNameRow : OpenClaim := { program := "ytdjmmdhjjdnbdaa", sum := "0bba78e8a397ad6026f7a7201d34e335e3140bb2f909b5f95058c7a64aed620d", func := "bootprint/bootprintlaw04.VfsName", spec := "vfsName", inPlace := ["maps.clone"], unfollowed := true, recurses := true, apart := false }
def VfsNameSaid : Prop := vfsNameRow.holds Try.pinned (OpenSpec.ofChange vfsNameSpec)

/-- ITS FALSE NEIGHBOUR: 'it returns false'. Refute it at one input. -/
def vfsNameWrong : ChangeSpec := { name := "vfsName", fn := fun _ => fun
  | [d] => { results := [.lit (.bool false)], args := [d] }
  | _ => none }
def VfsNameWrongFalsely : Prop := vfsNameRow.holds Try.pinned (OpenSpec.ofChange vfsNameWrong)

/-- 'bootprintlaw04.VfsKeeps': WHATEVER THE INPUT: true; the input reads as it did. -/
def vfsKeepsSpec : ChangeSpec := { name := "vfsKeeps", fn := fun _ => fun
  | [d1, d2, d3, d4, d5] => { results := [.lit (.bool true)], args := [d1, d2, d3, d4, d5] }
  | _ => none }
def vfsKeepsRow : OpenClaim := { program := "ytdjmmdhjjdnbdaa", sum := "0bba78e8a397ad6026f7a7201d34e335e3140bb2f909b5f95058c7a64aed620d", func := "bootprint/bootprintlaw04.VfsKeeps", spec := "vfsKeeps", inPlace := ["maps.clone"], unfollowed := true, recurses := true, apart := false }
def VfsKeepsSaid : Prop := vfsKeepsRow.holds Try.pinned (OpenSpec.ofChange vfsKeepsSpec)

/-- ITS FALSE NEIGHBOUR: 'it returns false'. Refute it at one input. -/
def vfsKeepsWrong : ChangeSpec := { name := "vfsKeeps", fn := fun _ => fun
  | [d1, d2, d3, d4, d5] => { results := [.lit (.bool false)], args := [d1, d2, d3, d4, d5] }
  | _ => none }
def VfsKeepsWrongFalsely : Prop := vfsKeepsRow.holds Try.pinned (OpenSpec.ofChange vfsKeepsWrong)

/-- 'bootprintlaw04.VfsNames': WHATEVER THE INPUT: true; the input reads as it did. -/
def vfsNamesSpec : ChangeSpec := { name := "vfsNames", fn := fun _ => fun
  | [] => { results := [.lit (.bool true)], args := [] }
  | _ => none }
def vfsNamesRow : OpenClaim := { program := "ytdjmmdhjjdnbdaa", sum := "0bba78e8a397ad6026f7a7201d34e335e3140bb2f909b5f95058c7a64aed620d", func := "bootprint/bootprintlaw04.VfsNames", spec := "vfsNames", inPlace := ["maps.clone"], unfollowed := true, recurses := true, apart := false }
def VfsNamesSaid : Prop := vfsNamesRow.holds Try.pinned (OpenSpec.ofChange vfsNamesSpec)

/-- ITS FALSE NEIGHBOUR: 'it returns false'. Refute it at one input. -/
def vfsNamesWrong : ChangeSpec := { name := "vfsNames", fn := fun _ => fun
  | [] => { results := [.lit (.bool false)], args := [] }
  | _ => none }
def VfsNamesWrongFalsely : Prop := vfsNamesRow.holds Try.pinned (OpenSpec.ofChange vfsNamesWrong)

/-- 'bootprintlaw04.VfsScript': WHATEVER THE INPUT: true; the input reads as it did. -/
def vfsScriptSpec : ChangeSpec := { name := "vfsScript", fn := fun _ => fun
  | [d1, d2] => { results := [.lit (.bool true)], args := [d1, d2] }
  | _ => none }
def vfsScriptRow : OpenClaim := { program := "ytdjmmdhjjdnbdaa", sum := "0bba78e8a397ad6026f7a7201d34e335e3140bb2f909b5f95058c7a64aed620d", func := "bootprint/bootprintlaw04.VfsScript", spec := "vfsScript", inPlace := ["maps.clone"], unfollowed := true, recurses := true, apart := false }
def VfsScriptSaid : Prop := vfsScriptRow.holds Try.pinned (OpenSpec.ofChange vfsScriptSpec)

/-- ITS FALSE NEIGHBOUR: 'it returns false'. Refute it at one input. -/
def vfsScriptWrong : ChangeSpec := { name := "vfsScript", fn := fun _ => fun
  | [d1, d2] => { results := [.lit (.bool false)], args := [d1, d2] }
  | _ => none }
def VfsScriptWrongFalsely : Prop := vfsScriptRow.holds Try.pinned (OpenSpec.ofChange vfsScriptWrong)

/-- 'bootprintlaw04.VfsNil': WHATEVER THE INPUT: true; the input reads as it did. -/
def vfsNilSpec : ChangeSpec := { name := "vfsNil", fn := fun _ => fun
  | [d] => { results := [.lit (.bool true)], args := [d] }
  | _ => none }
def vfsNilRow : OpenClaim := { program := "ytdjmmdhjjdnbdaa", sum := "0bba78e8a397ad6026f7a7201d34e335e3140bb2f909b5f95058c7a64aed620d", func := "bootprint/bootprintlaw04.VfsNil", spec := "vfsNil", inPlace := ["maps.clone"], unfollowed := true, recurses := true, apart := false }
def VfsNilSaid : Prop := vfsNilRow.holds Try.pinned (OpenSpec.ofChange vfsNilSpec)

/-- ITS FALSE NEIGHBOUR: 'it returns false'. Refute it at one input. -/
def vfsNilWrong : ChangeSpec := { name := "vfsNil", fn := fun _ => fun
  | [d] => { results := [.lit (.bool false)], args := [d] }
  | _ => none }
def VfsNilWrongFalsely : Prop := vfsNilRow.holds Try.pinned (OpenSpec.ofChange vfsNilWrong)

/- THE SECOND FORM. 'bulk': how many values and letters a reading holds, each counted each time it is reached (what is shared counts as often as it is met; a slice's spare places count too). A statement '..UptoSaid' is the law's where the arguments, and the package variables that the reading takes, are together of bulk at most 1048576: NARROWER than '..Said'. Prove '..Said' where nothing that the law and all that it calls make is longer than what came in: it says more and counts as full. Else prove '..UptoSaid'. A law counts once. -/
mutual
def uptoBulk {H : Type} : DataW H → Nat
  | .lit (.string bytes) => bytes.length + 1
  | .lit _ => 1
  | .nil => 1
  | .ptr d => uptoBulk d + 1
  | .slice elems spare => uptoBulkAll elems + uptoBulkAll spare + 1
  | .agg parts => uptoBulkAll parts + 1
  | .iface _ d => uptoBulk d + 1
  | .map entries => uptoBulkEntries entries + 1
  | .held _ => 1
def uptoBulkAll {H : Type} : List (DataW H) → Nat
  | [] => 0
  | d :: r => uptoBulk d + uptoBulkAll r
def uptoBulkEntries {H : Type} : List (Lit × DataW H) → Nat
  | [] => 0
  | x :: r => uptoBulkEntry x + uptoBulkEntries r
def uptoBulkEntry {H : Type} : Lit × DataW H → Nat
  | (.string bytes, d) => bytes.length + uptoBulk d + 1
  | (_, d) => uptoBulk d + 1
 end
def uptoSmall : (H : Type) → List (DataW H) → Bool := fun _ ds => decide (uptoBulkAll ds ≤ 1048576)
def OpenSpec.upto (s : _root_.Go.ChangeSpec) : _root_.Go.OpenSpec := { _root_.Go.OpenSpec.ofChange s with cond := some uptoSmall }

/-- 'bootprintlaw04.VfsName', WHERE WHAT IT READS IS OF BULK AT MOST 1048576: true; the input reads as it did. -/
def vfsNameUptoRow : OpenClaim := { program := "ytdjmmdhjjdnbdaa", sum := "0bba78e8a397ad6026f7a7201d34e335e3140bb2f909b5f95058c7a64aed620d", func := "bootprint/bootprintlaw04.VfsName", spec := "vfsName", inPlace := ["maps.clone"], unfollowed := true, recurses := true, apart := false, narrowed := true }
def VfsNameUptoSaid : Prop := vfsNameUptoRow.holds Try.pinned (OpenSpec.upto vfsNameSpec)

/-- 'bootprintlaw04.VfsKeeps', WHERE WHAT IT READS IS OF BULK AT MOST 1048576: true; the input reads as it did. -/
def vfsKeepsUptoRow : OpenClaim := { program := "ytdjmmdhjjdnbdaa", sum := "0bba78e8a397ad6026f7a7201d34e335e3140bb2f909b5f95058c7a64aed620d", func := "bootprint/bootprintlaw04.VfsKeeps", spec := "vfsKeeps", inPlace := ["maps.clone"], unfollowed := true, recurses := true, apart := false, narrowed := true }
def VfsKeepsUptoSaid : Prop := vfsKeepsUptoRow.holds Try.pinned (OpenSpec.upto vfsKeepsSpec)

/-- 'bootprintlaw04.VfsNames', WHERE WHAT IT READS IS OF BULK AT MOST 1048576: true; the input reads as it did. -/
def vfsNamesUptoRow : OpenClaim := { program := "ytdjmmdhjjdnbdaa", sum := "0bba78e8a397ad6026f7a7201d34e335e3140bb2f909b5f95058c7a64aed620d", func := "bootprint/bootprintlaw04.VfsNames", spec := "vfsNames", inPlace := ["maps.clone"], unfollowed := true, recurses := true, apart := false, narrowed := true }
def VfsNamesUptoSaid : Prop := vfsNamesUptoRow.holds Try.pinned (OpenSpec.upto vfsNamesSpec)

/-- 'bootprintlaw04.VfsScript', WHERE WHAT IT READS IS OF BULK AT MOST 1048576: true; the input reads as it did. -/
def vfsScriptUptoRow : OpenClaim := { program := "ytdjmmdhjjdnbdaa", sum := "0bba78e8a397ad6026f7a7201d34e335e3140bb2f909b5f95058c7a64aed620d", func := "bootprint/bootprintlaw04.VfsScript", spec := "vfsScript", inPlace := ["maps.clone"], unfollowed := true, recurses := true, apart := false, narrowed := true }
def VfsScriptUptoSaid : Prop := vfsScriptUptoRow.holds Try.pinned (OpenSpec.upto vfsScriptSpec)

/-- 'bootprintlaw04.VfsNil', WHERE WHAT IT READS IS OF BULK AT MOST 1048576: true; the input reads as it did. -/
def vfsNilUptoRow : OpenClaim := { program := "ytdjmmdhjjdnbdaa", sum := "0bba78e8a397ad6026f7a7201d34e335e3140bb2f909b5f95058c7a64aed620d", func := "bootprint/bootprintlaw04.VfsNil", spec := "vfsNil", inPlace := ["maps.clone"], unfollowed := true, recurses := true, apart := false, narrowed := true }
def VfsNilUptoSaid : Prop := vfsNilUptoRow.holds Try.pinned (OpenSpec.upto vfsNilSpec)

end Rows
end Go.Proofs.Ytdjmmdhjjdnbdaa
