/- (wire.Ordered, wire.Piece alone) Contracts of wire's writers. -/
import Derived.Test.YtlamebbolioljaaWireNum
namespace Go.Proofs.Ytlamebbolioljaa
open Go.RowKit

theorem shr_byte {x : Nat} {e : Nat} (k : Nat) (h : e = 8 * k) : (x : Int) / 2 ^ e % 256 = ((x / 256 ^ k % 256 : Nat) : Int) := by
  subst h
  have e : (2 : Nat) ^ (8 * k) = 256 ^ k := by rw [Nat.pow_mul]
  rw [← e]
  simp

set_option maxHeartbeats 400000 in
theorem wireOrdered {base A c n x} {xs : List Int} (w : World) (ho : w.ownsRow base 5 1 (.slice A n c) n (bv xs)) (hb : base ≤ w.heap.size) (hx : x < 18446744073709551616) (hn : n + 10 ≤ 140737488355328) :
    Calls Try.prog 56 #[.slice A n c, .int .u64 (x : Nat)] w (RetApp base 5 1 w (.slice A n c) (n + 8) (bv (xs ++ ordEnc x)) (fun _ => True)) := by
  go_enter Try.func56, Try.ntmps56
  go_wp2
  go_loopw [0, 5] (fun v i wr => ∃ (A' : Option Addr) (c' m k : Nat) (j : Int) (ys : List Int), k ≤ 8 ∧ v = .slice A' m c' ∧ i = .int .i64 j ∧ 8 * (k : Int) - 8 ≤ j ∧ j ≤ 8 * (k : Int) - 8 ∧ App base 5 1 w (.slice A n c) wr (.slice A' m c') m (bv ys) ∧ m + k = n + 8 ∧ ys ++ ordTo x k = xs ++ ordEnc x) (fun _ i _ => (intOf i + 8).toNat)
  case atStart => exact ⟨A, c, n, 8, _, xs, by omega, rfl, rfl, by omega, by omega, App.refl ho, rfl, rfl⟩
  case round =>
    obtain ⟨A', c', m, k, j, ys, hk, rfl, rfl, hj1, hj2, happ, hm, hys⟩ := hrel
    have HM := Lib.hid hm
    have HY := Lib.hid hys
    have hmb : m + 1 ≤ 140737488355328 ∨ k = 0 := by omega
    clear hm hys
    cases k with
    | zero =>
      have hj : j < 0 := by omega
      go_wp2
      go_ret
      have e1 : m = n + 8 := HM.out
      have e2 : ys = xs ++ ordEnc x := by rw [← HY.out]; simp [ordTo]
      exact ⟨A', c', by rw [← e1]; rfl, by rw [← e1, ← e2]; exact happ, trivial⟩
    | succ k =>
      have hj : 0 ≤ j := by omega
      have hmb' : m + 1 ≤ 140737488355328 := by omega
      clear hmb
      obtain ⟨z, hz⟩ : ∃ z : Int, z = ((x / 256 ^ k % 256 : Nat) : Int) := ⟨_, rfl⟩
      have hval : (x : Int) / 2 ^ (j).toNat % 256 = z := by rw [hz]; exact shr_byte k (by omega)
      have HZ := Lib.hid hz
      clear hz
      go_wp2_with (at_builtin; go_loud (refine wpList_appb _ rfl (.tmp 10) (.tmp 15) rfl base _ m ys rfl (happ.own.alloc _) _ _ 1 1 [z] rfl rfl (Rd.lit _ _ _) hmb' (by have := happ.heap; simp; omega) ?_))
      intro A2 c2 w2 h2 hne
      go_wp2
      go_roundw
      case rel =>
        exact ⟨A2, c2, m + 1, k, j - 8, ys ++ [z], by omega, rfl, by go_num, by omega, by omega, (happ.alloc _).trans h2, by have := HM.out; omega, by rw [← HY.out, HZ.out]; simp [ordTo]⟩
      case measure => simp [intOf]; omega

set_option maxHeartbeats 400000 in
theorem wirePiece {base A c n A1 c1 B m} {xs zs : List Int} (w : World) (ho : w.ownsRow base 5 1 (.slice A n c) n (bv xs)) (hb : base ≤ w.heap.size) (hr : Rb w B A1 zs) (hB : B ≤ w.heap.size) (hs : zs = [] ∨ Sep A A1) (hn : n + 1048592 ≤ 140737488355328) (hz : zs.length ≤ 1048576) (hm : zs.length = m) :
    Calls Try.prog 91 #[.slice A n c, .slice A1 m c1] w fun e w' => ∃ A' c', e = .returned (.tuple #[.slice A' (n + (numEnc zs.length).length + zs.length) c', .int .i64 0]) ∧ App base 5 1 w (.slice A n c) w' (.slice A' (n + (numEnc zs.length).length + zs.length) c') (n + (numEnc zs.length).length + zs.length) (bv (xs ++ (numEnc zs.length ++ zs))) := by
  subst hm
  have hx : zs.length < 18446744073709551616 := by omega
  have hl := numEnc_u64 hx
  go_enter Try.func91, Try.ntmps91
  go_wp2_with fail
  refine (wireNumber w ho hb hx (by omega)).mono ?_
  rintro e w1 ⟨A', c', rfl, happ, hne⟩
  have hr1 : Rb w1 B A1 zs := by
    rcases hs with h0 | hs
    · rw [h0]; exact Rd.nil
    · exact hr.apart hB happ.grown hs
  go_wp2_with (at_builtin; go_loud (refine wpList_appb _ rfl (.tmp 13) (.tmp 14) rfl base _ _ _ rfl happ.own B A1 zs.length c1 zs rfl rfl hr1 (by omega) (by have := happ.heap; omega) ?_))
  intro A2 c2 w2 h2 hne2
  go_wp2
  go_ret2
  exact ⟨A2, c2, rfl, happ.trans h2⟩

set_option maxHeartbeats 400000 in
theorem wirePieceLong {A c n A1 c1 m} (w : World) (hm : m ≤ maxLen) (hz : 1048576 < m) :
    Calls Try.prog 91 #[.slice A n c, .slice A1 m c1] w fun e w' => e = .returned (.tuple #[.slice none 0 0, .int .i64 3]) ∧ w = w' := by
  unfold maxLen at hm
  go_enter Try.func91, Try.ntmps91
  go_wp2
  go_ret2
  exact ⟨rfl, rfl⟩

end Go.Proofs.Ytlamebbolioljaa
