/- Whether a write, an entry may be: batch.right, batch.lengths. (Lines of BatM.) -/
import Derived.Deep.RegionHeld3
import Derived.Deep.AppendLies
import Derived.Test.YtleghbdkjdpilaaWireNum
import Derived.Test.YtleghbdkjdpilaaWrs
namespace Go.Proofs.Ytleghbdkjdpilaa
open Go.RowKit

def wrRight (x : Wr) : Bool := decide (0 < x.key.length) && (decide (x.kind = 1) || (decide (x.kind = 2) && decide (x.val.length = 0)))
def wrShort (x : Wr) : Bool := decide (x.key.length ≤ 4096) && decide (x.val.length ≤ 65536)
theorem batRight (kind : Int) {A1 A2 : Option Addr} {n1 c1 n2 c2 : Nat} (w : World) (x : Wr) (hk : x.kind = kind) (h1 : x.key.length = n1) (h2 : x.val.length = n2) :
    Calls Try.prog 35 #[.int .i64 kind, .slice A1 n1 c1, .slice A2 n2 c2] w fun e w' => e = .returned (.bool (wrRight x)) ∧ w' = w := by
  have hr : wrRight x = (decide (0 < n1) && (decide (kind = 1) || (decide (kind = 2) && decide (n2 = 0)))) := by rw [wrRight, h1, h2, hk]
  rw [hr]
  clear hr hk h1 h2
  have g1 : decide ((n1 : Int) > 0) = decide (0 < n1) := by simp
  have g2 : (((n2 : Nat) : Int) == 0) = decide (n2 = 0) := by rw [Bool.eq_iff_iff]; simp
  have g3 : (kind == 1) = decide (kind = 1) := by rw [Bool.eq_iff_iff]; simp
  have g4 : (kind == 2) = decide (kind = 2) := by rw [Bool.eq_iff_iff]; simp
  by_cases k1 : 0 < n1
  · have k1' : (0 : Int) < (n1 : Int) := by omega
    by_cases k2 : kind = 1
    · subst k2
      go_enter Try.func35, Try.ntmps35
      go_wp2
      go_ret
      exact ⟨by simp [k1], rfl⟩
    · have k2' : (kind == 1) = false := by simp [k2]
      by_cases k3 : kind = 2
      · subst k3
        by_cases k4 : n2 = 0
        · subst k4
          go_enter Try.func35, Try.ntmps35
          go_wp2
          go_ret
          exact ⟨by simp [k1], rfl⟩
        · have k4' : (((n2 : Nat) : Int) == 0) = false := by rw [beq_eq_false_iff_ne]; omega
          go_enter Try.func35, Try.ntmps35
          go_wp2
          go_ret
          exact ⟨by simp [k1, k4], rfl⟩
      · have k3' : (kind == 2) = false := by simp [k3]
        go_enter Try.func35, Try.ntmps35
        go_wp2
        go_ret
        exact ⟨by simp [k2, k3], rfl⟩
  · have k1' : decide ((0 : Int) < (n1 : Int)) = false := by simp; omega
    go_enter Try.func35, Try.ntmps35
    go_wp2
    go_ret
    exact ⟨by simp [k1], rfl⟩
theorem batLengths {A1 A2 : Option Addr} {n1 c1 n2 c2 : Nat} (w : World) (x : Wr) (h1 : x.key.length = n1) (h2 : x.val.length = n2) :
    Calls Try.prog 36 #[.slice A1 n1 c1, .slice A2 n2 c2] w fun e w' => e = .returned (.bool (wrShort x)) ∧ w' = w := by
  have hr : wrShort x = (decide (n1 ≤ 4096) && decide (n2 ≤ 65536)) := by rw [wrShort, h1, h2]
  rw [hr]
  clear hr h1 h2
  by_cases k1 : n1 ≤ 4096
  · have k1' : (n1 : Int) ≤ 4096 := by omega
    by_cases k2 : n2 ≤ 65536
    · have k2' : (n2 : Int) ≤ 65536 := by omega
      go_enter Try.func36, Try.ntmps36
      go_wp2
      go_ret
      exact ⟨by simp [k1, k2], rfl⟩
    · have k2' : decide ((n2 : Int) ≤ 65536) = false := by simp; omega
      go_enter Try.func36, Try.ntmps36
      go_wp2
      go_ret
      exact ⟨by simp [k1, k2], rfl⟩
  · have k1' : decide ((n1 : Int) ≤ 4096) = false := by simp; omega
    go_enter Try.func36, Try.ntmps36
    go_wp2
    go_ret
    exact ⟨by simp [k1], rfl⟩
end Go.Proofs.Ytleghbdkjdpilaa
