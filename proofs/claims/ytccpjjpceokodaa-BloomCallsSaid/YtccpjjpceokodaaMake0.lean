/- Make: where it is refused. -/
import Derived.Test.YtccpjjpceokodaaRefMake
namespace Go.Proofs.Ytccpjjpceokodaa
open Go.RowKit

theorem refMake0 {A : Option Addr} {c n : Nat} {d e : Int} (w : World) (hd : (Lit.int .i64 d).wf = true) (hbits : bitsOf n d = (0, 0, e)) (he : e = 2 ∨ e = 3) (hnl : n ≤ 8388608) :
    Calls Try.prog 12 #[.slice A n c, .int .i64 d] w fun en w' => en = .returned (.tuple #[.slice none 0 0, .int .i64 e]) ∧ w' = w := by
  have HB := Lib.hid hbits
  clear hbits
  go_enter Try.func12, Try.ntmps12
  go_wp2_with fail
  refine (refBits (n : Int) d w (WalkArith.wf_i64 (by omega)) hd).mono ?_
  rintro en w ⟨rfl, rfl⟩
  rw [HB.out]
  simp only []
  rcases he with rfl | rfl <;> (go_wp2; go_ret2; exact ⟨rfl, rfl⟩)
theorem bloomMake0 {A : Option Addr} {c n : Nat} {d e : Int} (w : World) (hd : (Lit.int .i64 d).wf = true) (hbits : bitsOf n d = (0, 0, e)) (he : e = 2 ∨ e = 3) (hnl : n ≤ 8388608) :
    Calls Try.prog 7 #[.slice A n c, .int .i64 d] w fun en w' => en = .returned (.tuple #[.slice none 0 0, .int .i64 e]) ∧ w' = w := by
  have HB := Lib.hid hbits
  clear hbits
  go_enter Try.func7, Try.ntmps7
  go_wp2_with fail
  refine (bloomBits (n : Int) d w (WalkArith.wf_i64 (by omega)) hd).mono ?_
  rintro en w ⟨rfl, rfl⟩
  rw [HB.out]
  simp only []
  rcases he with rfl | rfl <;> (go_wp2; go_ret2; exact ⟨rfl, rfl⟩)
end Go.Proofs.Ytccpjjpceokodaa
