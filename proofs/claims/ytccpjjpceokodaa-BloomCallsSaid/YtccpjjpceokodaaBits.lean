/- How many bits, and probes, a filter has. -/
import Derived.Test.YtccpjjpceokodaaHash
namespace Go.Proofs.Ytccpjjpceokodaa
open Go.RowKit

/-- Bits: the bits, the probes, the error. -/
def bitsOf (m c : Int) : Int × Int × Int :=
  if m < 0 ∨ c < 1 ∨ 64 < c then (0, 0, 2) else if 8388608 < m then (0, 0, 3) else
    if 8388608 < (max 64 (m * c) + 7) / 8 * 8 then (0, 0, 3) else ((max 64 (m * c) + 7) / 8 * 8, min 30 (max 1 (c * 69 / 100)), 0)
theorem ret3i {a b c a' b' c' : Int} (h1 : a = a') (h2 : b = b') (h3 : c = c') : Ending.returned (.tuple #[.int .i64 a, .int .i64 b, .int .i64 c]) = .returned (.tuple #[.int .i64 a', .int .i64 b', .int .i64 c']) := by rw [h1, h2, h3]
theorem mul_bd {m c : Int} (h0 : 0 ≤ m) (h1 : m ≤ 8388608) (h2 : 1 ≤ c) (h3 : c ≤ 64) : 0 ≤ m * c ∧ m * c ≤ 536870912 := by
  refine ⟨Int.mul_nonneg h0 (by omega), ?_⟩
  have := Int.mul_le_mul h1 h3 (by omega) (by omega : (0:Int) ≤ 8388608)
  omega

set_option maxHeartbeats 800000 in
theorem bloomBits (m c : Int) (w : World) (hm : (Lit.int .i64 m).wf = true) (hc : (Lit.int .i64 c).wf = true) :
    Calls Try.prog 6 #[.int .i64 m, .int .i64 c] w fun e w' => e = .returned (.tuple #[.int .i64 (bitsOf m c).1, .int .i64 (bitsOf m c).2.1, .int .i64 (bitsOf m c).2.2]) ∧ w' = w := by
  clear hm hc
  by_cases h1 : m < 0
  · rw [show bitsOf m c = (0, 0, 2) from by simp [bitsOf, h1]]
    go_enter Try.func6, Try.ntmps6
    go_wp2
    go_ret3
    exact ⟨rfl, rfl⟩
  by_cases h2 : c < 1
  · rw [show bitsOf m c = (0, 0, 2) from by simp [bitsOf, h2]]
    go_enter Try.func6, Try.ntmps6
    go_wp2
    go_ret3
    exact ⟨rfl, rfl⟩
  by_cases h3 : 64 < c
  · rw [show bitsOf m c = (0, 0, 2) from by simp [bitsOf, h3]]
    go_enter Try.func6, Try.ntmps6
    go_wp2
    go_ret3
    exact ⟨rfl, rfl⟩
  have h123 : ¬ (m < 0 ∨ c < 1 ∨ 64 < c) := by omega
  by_cases h4 : 8388608 < m
  · rw [show bitsOf m c = (0, 0, 3) from by rw [bitsOf, if_neg h123, if_pos h4]]
    clear h123
    go_enter Try.func6, Try.ntmps6
    go_wp2
    go_ret3
    exact ⟨rfl, rfl⟩
  obtain ⟨b0, b1⟩ := mul_bd (m := m) (c := c) (by omega) (by omega) (by omega) (by omega)
  have hbits : bitsOf m c = if 8388608 < (max 64 (m * c) + 7) / 8 * 8 then (0, 0, 3) else ((max 64 (m * c) + 7) / 8 * 8, min 30 (max 1 (c * 69 / 100)), 0) := by rw [bitsOf, if_neg h123, if_neg h4]
  rw [hbits]
  clear hbits h123
  by_cases h5 : 8388608 < (max 64 (m * c) + 7) / 8 * 8
  · rw [if_pos h5]
    go_enter Try.func6, Try.ntmps6
    go_wp2
    all_goals (go_ret3; exact ⟨rfl, rfl⟩)
  · rw [if_neg h5]
    go_enter Try.func6, Try.ntmps6
    go_wp2
    all_goals (go_ret3; exact ⟨ret3i (by omega) (by omega) rfl, rfl⟩)

set_option maxHeartbeats 800000 in
theorem refBits (m c : Int) (w : World) (hm : (Lit.int .i64 m).wf = true) (hc : (Lit.int .i64 c).wf = true) :
    Calls Try.prog 13 #[.int .i64 m, .int .i64 c] w fun e w' => e = .returned (.tuple #[.int .i64 (bitsOf m c).1, .int .i64 (bitsOf m c).2.1, .int .i64 (bitsOf m c).2.2]) ∧ w' = w := by
  clear hm hc
  by_cases h1 : m < 0
  · rw [show bitsOf m c = (0, 0, 2) from by simp [bitsOf, h1]]
    go_enter Try.func13, Try.ntmps13
    go_wp2
    go_ret3
    exact ⟨rfl, rfl⟩
  by_cases h2 : c < 1
  · rw [show bitsOf m c = (0, 0, 2) from by simp [bitsOf, h2]]
    go_enter Try.func13, Try.ntmps13
    go_wp2
    go_ret3
    exact ⟨rfl, rfl⟩
  by_cases h3 : 64 < c
  · rw [show bitsOf m c = (0, 0, 2) from by simp [bitsOf, h3]]
    go_enter Try.func13, Try.ntmps13
    go_wp2
    go_ret3
    exact ⟨rfl, rfl⟩
  have h123 : ¬ (m < 0 ∨ c < 1 ∨ 64 < c) := by omega
  by_cases h4 : 8388608 < m
  · rw [show bitsOf m c = (0, 0, 3) from by rw [bitsOf, if_neg h123, if_pos h4]]
    clear h123
    go_enter Try.func13, Try.ntmps13
    go_wp2
    go_ret3
    exact ⟨rfl, rfl⟩
  obtain ⟨b0, b1⟩ := mul_bd (m := m) (c := c) (by omega) (by omega) (by omega) (by omega)
  have hbits : bitsOf m c = if 8388608 < (max 64 (m * c) + 7) / 8 * 8 then (0, 0, 3) else ((max 64 (m * c) + 7) / 8 * 8, min 30 (max 1 (c * 69 / 100)), 0) := by rw [bitsOf, if_neg h123, if_neg h4]
  rw [hbits]
  clear hbits h123
  by_cases h5 : 8388608 < (max 64 (m * c) + 7) / 8 * 8
  · rw [if_pos h5]
    go_enter Try.func13, Try.ntmps13
    go_wp2
    all_goals (go_ret3; exact ⟨rfl, rfl⟩)
  · rw [if_neg h5]
    go_enter Try.func13, Try.ntmps13
    go_wp2
    all_goals (go_ret3; exact ⟨ret3i (by omega) (by omega) rfl, rfl⟩)
end Go.Proofs.Ytccpjjpceokodaa
