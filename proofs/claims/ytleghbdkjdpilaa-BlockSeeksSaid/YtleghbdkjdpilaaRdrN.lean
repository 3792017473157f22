/- A reader's number: its bounds. (Lines of BatR2.) -/
import Derived.Test.YtleghbdkjdpilaaRdr2
namespace Go.Proofs.Ytleghbdkjdpilaa
open Go.RowKit

theorem rdNum_lt {zs : List Int} (hz : Byt zs) (p e : Nat) : (rdNum zs p e).1 < 18446744073709551616 := by
  unfold rdNum
  split
  · simp
  · rcases shortOf_err (zs.drop p) with h | h | h
    · exact (shortOf_ok (hz.drop p) (y := (shortOf (zs.drop p)).1) (n := (shortOf (zs.drop p)).2.1) (by rw [← h])).2.2
    · rw [h]; simp
    · rw [h]; simp
theorem rdNum_le {zs : List Int} (hz : Byt zs) {p e : Nat} (he : e ≤ 100) : (rdNum zs p e).2.2 ≤ 100 := by
  unfold rdNum
  split
  · exact he
  · have := (shortOf_le (hz.drop p)).2
    exact Nat.le_trans this (by omega)

end Go.Proofs.Ytleghbdkjdpilaa
