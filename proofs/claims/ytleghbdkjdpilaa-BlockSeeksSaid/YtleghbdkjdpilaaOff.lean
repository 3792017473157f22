/- A slice's new address, and cutting bytes from a place on. (Lines of ScI.) -/
import Derived.Test.YtleghbdkjdpilaaByt
namespace Go.Proofs.Ytleghbdkjdpilaa
open Go.RowKit

/-- A slice's address from k on. -/
def offA (a : Option Addr) (c k : Nat) : Option Addr := if c = k then a else a.map (·.add k)
set_option maxRecDepth 100000 in
theorem run_slK (w : World) (a : Option Addr) (n c : Nat) (kl : IntKind) (l : Int) (h0 : 0 ≤ l) (h1 : l ≤ n) :
    (Instr.slice 26 (.slice a n c) (some (.int kl l)) none none).run Try.prog w = .ok (.slice (offA a c l.toNat) (n - l.toNat) (c - l.toNat)) w := by
  have h := run_slice_l (P := Try.prog) w 26 a n c Try.underlying26 kl l h0 h1
  rw [h]
  have hs : (sizeOf (Try.prog.elem 26)).run Try.prog w = .ok 1 w := by kernel_rfl
  rw [hs]
  simp [Result.andThen, sliced, offA]
end Go.Proofs.Ytleghbdkjdpilaa
