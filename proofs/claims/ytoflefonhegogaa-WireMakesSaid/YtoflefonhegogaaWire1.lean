/- Contracts of wire's and bootprintref01's writers: Number, Ordered, OrderedText, Piece, Size. -/
import Derived.Test.YtoflefonhegogaaKit
import Derived.Test.YtoflefonhegogaaWireM
namespace Go.Proofs.Ytoflefonhegogaa
open Go.RowKit

theorem or128 : ∀ n : Nat, n < 256 → bits .or .u8 (n : Int) 128 = ((n % 128 + 128 : Nat) : Int) := by decide +kernel
theorem or128' (y : Nat) : bits .or .u8 ((y : Int) % 256) 128 = ((y % 128 + 128 : Nat) : Int) := by
  have h := or128 (y % 256) (by omega)
  rw [show ((y : Int) % 256) = ((y % 256 : Nat) : Int) from by omega, h]
  omega

set_option maxHeartbeats 400000 in
theorem wireNumber {base A c n x} {xs : List Int} (w : World) (ho : w.ownsRow base 5 1 (.slice A n c) n (bv xs)) (hb : base ≤ w.heap.size) (hx : x < 18446744073709551616) (hn : n + 10 ≤ 140737488355328) :
    Calls Try.prog 14 #[.slice A n c, .int .u64 (x : Nat)] w (RetApp base 5 1 w (.slice A n c) (n + (numEnc x).length) (bv (xs ++ numEnc x)) (· ≠ none)) := by
  have hl10 := numEnc_u64 hx
  go_enter Try.func14, Try.ntmps14
  go_wp2
  go_loopw [0, 1] (fun v y wr => ∃ (A' : Option Addr) (c' m y' : Nat) (ys : List Int), v = .slice A' m c' ∧ y = .int .u64 (y' : Nat) ∧ y' < 18446744073709551616 ∧ App base 5 1 w (.slice A n c) wr (.slice A' m c') m (bv ys) ∧ m + (numEnc y').length = n + (numEnc x).length ∧ ys ++ numEnc y' = xs ++ numEnc x) (fun _ y _ => (intOf y).toNat)
  case atStart => exact ⟨A, c, n, x, xs, rfl, rfl, hx, App.refl ho, rfl, rfl⟩
  case round =>
    obtain ⟨A', c', m, y, ys, rfl, rfl, hy, happ, hm, hys⟩ := hrel
    have HM := Lib.hid hm
    have HY := Lib.hid hys
    have hpos := numEnc_pos y
    have hmb : m + 1 ≤ 140737488355328 := by omega
    clear hm hys
    by_cases hlt : y < 128
    · have hlt' : ¬ ((128 : Int) ≤ (y : Int)) := by omega
      go_wp2_with (at_builtin; go_loud (refine wpList_appb _ rfl (.tmp 15) (.tmp 18) rfl base _ m ys rfl (happ.own.alloc _) _ _ 1 1 [(y : Int)] rfl rfl (Rd.lit _ _ _) hmb (by have := happ.heap; simp; omega) ?_))
      intro A2 c2 w2 h2 hne
      go_wp2
      go_ret
      have e1 : m + 1 = n + (numEnc x).length := by rw [← HM.out, numEnc_lt hlt]; rfl
      have e2 : ys ++ [(y : Int)] = xs ++ numEnc x := by rw [← HY.out, numEnc_lt hlt]
      exact ⟨A2, c2, by rw [← e1]; rfl, by rw [← e1, ← e2]; exact (happ.alloc _).trans h2, hne⟩
    · have hge : ((128 : Int) ≤ (y : Int)) := by omega
      obtain ⟨z, hz⟩ : ∃ z : Int, z = ((y % 128 + 128 : Nat) : Int) := ⟨_, rfl⟩
      have hor : bits .or .u8 ((y : Int) % 256) 128 = z := by rw [or128' y, hz]
      have HZ := Lib.hid hz
      clear hz
      go_wp2_with (at_builtin; go_loud (refine wpList_appb _ rfl (.tmp 7) (.tmp 11) rfl base _ m ys rfl (happ.own.alloc _) _ _ 1 1 [z] rfl rfl (Rd.lit _ _ _) hmb (by have := happ.heap; simp; omega) ?_))
      intro A2 c2 w2 h2 hne
      go_wp2
      go_roundw
      case rel =>
        exact ⟨A2, c2, m + 1, y / 128, ys ++ [z], rfl, by go_num, by omega, (happ.alloc _).trans h2, by rw [← HM.out, numEnc_ge (x := y) (by omega)]; simp; omega, by rw [← HY.out, numEnc_ge (x := y) (by omega), HZ.out]; simp⟩
      case measure => simp [intOf]; omega
set_option maxHeartbeats 400000 in
theorem refNumber {base A c n x} {xs : List Int} (w : World) (ho : w.ownsRow base 5 1 (.slice A n c) n (bv xs)) (hb : base ≤ w.heap.size) (hx : x < 18446744073709551616) (hn : n + 10 ≤ 140737488355328) :
    Calls Try.prog 19 #[.slice A n c, .int .u64 (x : Nat)] w (RetApp base 5 1 w (.slice A n c) (n + (numEnc x).length) (bv (xs ++ numEnc x)) (· ≠ none)) := by
  have hl10 := numEnc_u64 hx
  go_enter Try.func19, Try.ntmps19
  go_wp2
  go_loopw [0, 1] (fun v y wr => ∃ (A' : Option Addr) (c' m y' : Nat) (ys : List Int), v = .slice A' m c' ∧ y = .int .u64 (y' : Nat) ∧ y' < 18446744073709551616 ∧ App base 5 1 w (.slice A n c) wr (.slice A' m c') m (bv ys) ∧ m + (numEnc y').length = n + (numEnc x).length ∧ ys ++ numEnc y' = xs ++ numEnc x) (fun _ y _ => (intOf y).toNat)
  case atStart => exact ⟨A, c, n, x, xs, rfl, rfl, hx, App.refl ho, rfl, rfl⟩
  case round =>
    obtain ⟨A', c', m, y, ys, rfl, rfl, hy, happ, hm, hys⟩ := hrel
    have HM := Lib.hid hm
    have HY := Lib.hid hys
    have hpos := numEnc_pos y
    have hmb : m + 1 ≤ 140737488355328 := by omega
    clear hm hys
    by_cases hlt : y < 128
    · have hlt' : ¬ ((128 : Int) ≤ (y : Int)) := by omega
      go_wp2_with (at_builtin; go_loud (refine wpList_appb _ rfl (.tmp 16) (.tmp 19) rfl base _ m ys rfl (happ.own.alloc _) _ _ 1 1 [(y : Int)] rfl rfl (Rd.lit _ _ _) hmb (by have := happ.heap; simp; omega) ?_))
      intro A2 c2 w2 h2 hne
      go_wp2
      go_ret
      have e1 : m + 1 = n + (numEnc x).length := by rw [← HM.out, numEnc_lt hlt]; rfl
      have e2 : ys ++ [(y : Int)] = xs ++ numEnc x := by rw [← HY.out, numEnc_lt hlt]
      exact ⟨A2, c2, by rw [← e1]; rfl, by rw [← e1, ← e2]; exact (happ.alloc _).trans h2, hne⟩
    · have hge : ((128 : Int) ≤ (y : Int)) := by omega
      obtain ⟨z, hz⟩ : ∃ z : Int, z = ((y % 128 + 128 : Nat) : Int) := ⟨_, rfl⟩
      have hor : (y : Int) % 128 + 128 = z := by rw [hz]; omega
      have HZ := Lib.hid hz
      clear hz
      go_wp2_with (at_builtin; go_loud (refine wpList_appb _ rfl (.tmp 7) (.tmp 12) rfl base _ m ys rfl (happ.own.alloc _) _ _ 1 1 [z] rfl rfl (Rd.lit _ _ _) hmb (by have := happ.heap; simp; omega) ?_))
      intro A2 c2 w2 h2 hne
      go_wp2
      go_roundw
      case rel =>
        exact ⟨A2, c2, m + 1, y / 128, ys ++ [z], rfl, by go_num, by omega, (happ.alloc _).trans h2, by rw [← HM.out, numEnc_ge (x := y) (by omega)]; simp; omega, by rw [← HY.out, numEnc_ge (x := y) (by omega), HZ.out]; simp⟩
      case measure => simp [intOf]; omega

set_option maxHeartbeats 400000 in
/-- Size. -/
theorem refSize {x : Nat} (w : World) (hx : x < 18446744073709551616) :
    Calls Try.prog 20 #[.int .u64 (x : Nat)] w fun e w' => e = .returned (.int .i64 (numEnc x).length) ∧ Below w.heap.size w w' := by
  have hl := numEnc_u64 hx
  go_enter Try.func20, Try.ntmps20
  go_wp2_with fail
  refine (refNumber (base := w.heap.size) (xs := []) w (World.ownsRow_nil _ _ _ _) (Nat.le_refl _) hx (by omega)).mono ?_
  rintro e w1 ⟨A', c', rfl, happ, hne⟩
  go_wp2
  go_ret
  exact ⟨by simp, happ.below0⟩

set_option maxHeartbeats 400000 in
theorem wirePiece {base A c n A1 c1 B m} {xs zs : List Int} (w : World) (ho : w.ownsRow base 5 1 (.slice A n c) n (bv xs)) (hb : base ≤ w.heap.size) (hr : Rb w B A1 zs) (hB : B ≤ w.heap.size) (hs : zs = [] ∨ Sep A A1) (hn : n + 1048592 ≤ 140737488355328) (hz : zs.length ≤ 1048576) (hm : zs.length = m) :
    Calls Try.prog 15 #[.slice A n c, .slice A1 m c1] w fun e w' => ∃ A' c', e = .returned (.tuple #[.slice A' (n + (numEnc zs.length).length + zs.length) c', .int .i64 0]) ∧ App base 5 1 w (.slice A n c) w' (.slice A' (n + (numEnc zs.length).length + zs.length) c') (n + (numEnc zs.length).length + zs.length) (bv (xs ++ (numEnc zs.length ++ zs))) := by
  subst hm
  have hx : zs.length < 18446744073709551616 := by omega
  have hl := numEnc_u64 hx
  go_enter Try.func15, Try.ntmps15
  go_wp2_with fail
  refine (wireNumber w ho hb hx (by omega)).mono ?_
  rintro e w1 ⟨A', c', rfl, happ, hne⟩
  have hr1 : Rb w1 B A1 zs := by
    rcases hs with h0 | hs
    · rw [h0]; exact Rd.nil
    · exact hr.apart hB happ.grown hs
  go_wp2_with (at_builtin; go_loud (refine wpList_appb _ rfl (.tmp 13) (.tmp 14) rfl base _ _ _ rfl happ.own B A1 zs.length c1 zs rfl rfl hr1 (by omega) (by have := happ.heap; omega) ?_))
  intro A2 c2 w2 h2 hne2
  go_wp2
  go_ret2
  exact ⟨A2, c2, rfl, happ.trans h2⟩

set_option maxHeartbeats 400000 in
theorem wirePieceLong {A c n A1 c1 m} (w : World) (hm : m ≤ maxLen) (hz : 1048576 < m) :
    Calls Try.prog 15 #[.slice A n c, .slice A1 m c1] w fun e w' => e = .returned (.tuple #[.slice none 0 0, .int .i64 3]) ∧ w = w' := by
  unfold maxLen at hm
  go_enter Try.func15, Try.ntmps15
  go_wp2
  go_ret2
  exact ⟨rfl, rfl⟩

set_option maxHeartbeats 400000 in
theorem refPiece {base A c n A1 c1 B m} {xs zs : List Int} (w : World) (ho : w.ownsRow base 5 1 (.slice A n c) n (bv xs)) (hb : base ≤ w.heap.size) (hr : Rb w B A1 zs) (hB : B ≤ w.heap.size) (hs : zs = [] ∨ Sep A A1) (hn : n + 1048592 ≤ 140737488355328) (hz : zs.length ≤ 1048576) (hm : zs.length = m) :
    Calls Try.prog 17 #[.slice A n c, .slice A1 m c1] w fun e w' => ∃ A' c', e = .returned (.tuple #[.slice A' (n + (numEnc zs.length).length + zs.length) c', .int .i64 0]) ∧ App base 5 1 w (.slice A n c) w' (.slice A' (n + (numEnc zs.length).length + zs.length) c') (n + (numEnc zs.length).length + zs.length) (bv (xs ++ (numEnc zs.length ++ zs))) := by
  subst hm
  have hx : zs.length < 18446744073709551616 := by omega
  have hl := numEnc_u64 hx
  go_enter Try.func17, Try.ntmps17
  go_wp2_with fail
  refine (refNumber w ho hb hx (by omega)).mono ?_
  rintro e w1 ⟨A', c', rfl, happ, hne⟩
  have hr1 : Rb w1 B A1 zs := by
    rcases hs with h0 | hs
    · rw [h0]; exact Rd.nil
    · exact hr.apart hB happ.grown hs
  go_wp2_with (at_builtin; go_loud (refine wpList_appb _ rfl (.tmp 13) (.tmp 14) rfl base _ _ _ rfl happ.own B A1 zs.length c1 zs rfl rfl hr1 (by omega) (by have := happ.heap; omega) ?_))
  intro A2 c2 w2 h2 hne2
  go_wp2
  go_ret2
  exact ⟨A2, c2, rfl, happ.trans h2⟩

set_option maxHeartbeats 400000 in
theorem refPieceLong {A c n A1 c1 m} (w : World) (hm : m ≤ maxLen) (hz : 1048576 < m) :
    Calls Try.prog 17 #[.slice A n c, .slice A1 m c1] w fun e w' => e = .returned (.tuple #[.slice none 0 0, .int .i64 3]) ∧ w = w' := by
  unfold maxLen at hm
  go_enter Try.func17, Try.ntmps17
  go_wp2
  go_ret2
  exact ⟨rfl, rfl⟩
end Go.Proofs.Ytoflefonhegogaa
