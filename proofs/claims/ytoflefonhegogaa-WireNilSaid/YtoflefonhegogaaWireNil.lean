/- The statement WireNil: a reader that is not there, or that nobody made, tells nothing. -/
import Derived.Test.YtoflefonhegogaaLives
import Derived.Test.YtoflefonhegogaaOpen
namespace Go.Proofs.Ytoflefonhegogaa
open Go.RowKit

set_option maxHeartbeats 4000000 in
theorem wireNil_walk (n : Int) (w : World) (_hn : (Lit.int .i64 n).wf = true) :
    Calls Try.prog 8 #[.int .i64 n] w fun e w' => e = .returned (.bool true) ∧ Below w.heap.size w w' := by
  go_enter Try.func8, Try.ntmps8
  go_wp2
  refine wp_loop_rounds 3 ?_
  rw [rounds_succ]
  go_wp2
  rw [rounds_succ]
  go_wp2
  rw [rounds_succ]
  go_wp2_with fail
  refine (lives_true _).mono ?_
  rintro e w1 ⟨rfl, hb⟩
  go_wp2
  go_ret
  exact ⟨rfl, (((Below.refl _ _).alloc (Nat.le_refl _) _).alloc (by simp) _).trans (hb.mono (by simp; omega))⟩
end Go.Proofs.Ytoflefonhegogaa
