/- (wire.Number alone) Contracts of wire's and bootprintref01's writers: Number, Ordered, OrderedText, Piece, Size. -/
import Derived.Test.YtleghbdkjdpilaaKit
import Derived.Test.YtleghbdkjdpilaaWireM
namespace Go.Proofs.Ytleghbdkjdpilaa
open Go.RowKit

theorem or128 : ∀ n : Nat, n < 256 → bits .or .u8 (n : Int) 128 = ((n % 128 + 128 : Nat) : Int) := by decide +kernel
theorem or128' (y : Nat) : bits .or .u8 ((y : Int) % 256) 128 = ((y % 128 + 128 : Nat) : Int) := by
  have h := or128 (y % 256) (by omega)
  rw [show ((y : Int) % 256) = ((y % 256 : Nat) : Int) from by omega, h]
  omega

set_option maxHeartbeats 400000 in
theorem wireNumber {base A c n x} {xs : List Int} (w : World) (ho : w.ownsRow base 5 1 (.slice A n c) n (bv xs)) (hb : base ≤ w.heap.size) (hx : x < 18446744073709551616) (hn : n + 10 ≤ 140737488355328) :
    Calls Try.prog 38 #[.slice A n c, .int .u64 (x : Nat)] w (RetApp base 5 1 w (.slice A n c) (n + (numEnc x).length) (bv (xs ++ numEnc x)) (· ≠ none)) := by
  have hl10 := numEnc_u64 hx
  go_enter Try.func38, Try.ntmps38
  go_wp2
  go_loopw [0, 1] (fun v y wr => ∃ (A' : Option Addr) (c' m y' : Nat) (ys : List Int), v = .slice A' m c' ∧ y = .int .u64 (y' : Nat) ∧ y' < 18446744073709551616 ∧ App base 5 1 w (.slice A n c) wr (.slice A' m c') m (bv ys) ∧ m + (numEnc y').length = n + (numEnc x).length ∧ ys ++ numEnc y' = xs ++ numEnc x) (fun _ y _ => (intOf y).toNat)
  case atStart => exact ⟨A, c, n, x, xs, rfl, rfl, hx, App.refl ho, rfl, rfl⟩
  case round =>
    obtain ⟨A', c', m, y, ys, rfl, rfl, hy, happ, hm, hys⟩ := hrel
    have HM := Lib.hid hm
    have HY := Lib.hid hys
    have hpos := numEnc_pos y
    have hmb : m + 1 ≤ 140737488355328 := by omega
    clear hm hys
    by_cases hlt : y < 128
    · have hlt' : ¬ ((128 : Int) ≤ (y : Int)) := by omega
      go_wp2_with (at_builtin; go_loud (refine wpList_appb _ rfl (.tmp 15) (.tmp 18) rfl base _ m ys rfl (happ.own.alloc _) _ _ 1 1 [(y : Int)] rfl rfl (Rd.lit _ _ _) hmb (by have := happ.heap; simp; omega) ?_))
      intro A2 c2 w2 h2 hne
      go_wp2
      go_ret
      have e1 : m + 1 = n + (numEnc x).length := by rw [← HM.out, numEnc_lt hlt]; rfl
      have e2 : ys ++ [(y : Int)] = xs ++ numEnc x := by rw [← HY.out, numEnc_lt hlt]
      exact ⟨A2, c2, by rw [← e1]; rfl, by rw [← e1, ← e2]; exact (happ.alloc _).trans h2, hne⟩
    · have hge : ((128 : Int) ≤ (y : Int)) := by omega
      obtain ⟨z, hz⟩ : ∃ z : Int, z = ((y % 128 + 128 : Nat) : Int) := ⟨_, rfl⟩
      have hor : bits .or .u8 ((y : Int) % 256) 128 = z := by rw [or128' y, hz]
      have HZ := Lib.hid hz
      clear hz
      go_wp2_with (at_builtin; go_loud (refine wpList_appb _ rfl (.tmp 7) (.tmp 11) rfl base _ m ys rfl (happ.own.alloc _) _ _ 1 1 [z] rfl rfl (Rd.lit _ _ _) hmb (by have := happ.heap; simp; omega) ?_))
      intro A2 c2 w2 h2 hne
      go_wp2
      go_roundw
      case rel =>
        exact ⟨A2, c2, m + 1, y / 128, ys ++ [z], rfl, by go_num, by omega, (happ.alloc _).trans h2, by rw [← HM.out, numEnc_ge (x := y) (by omega)]; simp; omega, by rw [← HY.out, numEnc_ge (x := y) (by omega), HZ.out]; simp⟩
      case measure => simp [intOf]; omega
end Go.Proofs.Ytleghbdkjdpilaa
