/- The document's answer's writers, onto a row whose block bears a mark: bootprintref01.Number, Piece, bootprintref17.eight. -/
import Derived.Test.YtohnpogoldbplaaLibT
import Derived.Test.YtohnpogoldbplaaWireOrd
import Derived.Test.YtohnpogoldbplaaSpA
namespace Go.Proofs.Ytohnpogoldbplaa
open Go.RowKit

set_option maxHeartbeats 400000 in
theorem refNumberT {base A c n x} {xs : List Int} (w : World) (ho : ownsT w base 5 1 (.slice A n c) n (bv xs)) (hb : base ≤ w.heap.size) (hx : x < 18446744073709551616) (hn : n + 10 ≤ 140737488355328) :
    Calls Try.prog 53 #[.slice A n c, .int .u64 (x : Nat)] w (RetAppT base 5 1 w (.slice A n c) (n + (numEnc x).length) (bv (xs ++ numEnc x)) (· ≠ none)) := by
  have hl10 := numEnc_u64 hx
  go_enter Try.func53, Try.ntmps53
  go_wp2
  go_loopw [0, 1] (fun v y wr => ∃ (A' : Option Addr) (c' m y' : Nat) (ys : List Int), v = .slice A' m c' ∧ y = .int .u64 (y' : Nat) ∧ y' < 18446744073709551616 ∧ AppT base 5 1 w (.slice A n c) wr (.slice A' m c') m (bv ys) ∧ m + (numEnc y').length = n + (numEnc x).length ∧ ys ++ numEnc y' = xs ++ numEnc x) (fun _ y _ => (intOf y).toNat)
  case atStart => exact ⟨A, c, n, x, xs, rfl, rfl, hx, AppT.refl ho, rfl, rfl⟩
  case round =>
    obtain ⟨A', c', m, y, ys, rfl, rfl, hy, happ, hm, hys⟩ := hrel
    have HM := Lib.hid hm
    have HY := Lib.hid hys
    have hpos := numEnc_pos y
    have hmb : m + 1 ≤ 140737488355328 := by omega
    clear hm hys
    by_cases hlt : y < 128
    · have hlt' : ¬ ((128 : Int) ≤ (y : Int)) := by omega
      go_wp2_with (at_builtin; go_loud (refine wpList_appbT _ rfl (.tmp 16) (.tmp 19) rfl base _ m ys rfl (happ.own.alloc _) _ _ 1 1 [(y : Int)] rfl rfl (Rd.lit _ _ _) hmb (by have := happ.heap; simp; omega) ?_))
      intro A2 c2 w2 h2 hne
      go_wp2
      go_ret
      have e1 : m + 1 = n + (numEnc x).length := by rw [← HM.out, numEnc_lt hlt]; rfl
      have e2 : ys ++ [(y : Int)] = xs ++ numEnc x := by rw [← HY.out, numEnc_lt hlt]
      exact ⟨A2, c2, by rw [← e1]; rfl, by rw [← e1, ← e2]; exact (happ.alloc _).trans h2, hne⟩
    · have hge : ((128 : Int) ≤ (y : Int)) := by omega
      obtain ⟨z, hz⟩ : ∃ z : Int, z = ((y % 128 + 128 : Nat) : Int) := ⟨_, rfl⟩
      have hor : (y : Int) % 128 + 128 = z := by rw [hz]; omega
      have HZ := Lib.hid hz
      clear hz
      go_wp2_with (at_builtin; go_loud (refine wpList_appbT _ rfl (.tmp 7) (.tmp 12) rfl base _ m ys rfl (happ.own.alloc _) _ _ 1 1 [z] rfl rfl (Rd.lit _ _ _) hmb (by have := happ.heap; simp; omega) ?_))
      intro A2 c2 w2 h2 hne
      go_wp2
      go_roundw
      case rel =>
        exact ⟨A2, c2, m + 1, y / 128, ys ++ [z], rfl, by go_num, by omega, (happ.alloc _).trans h2, by rw [← HM.out, numEnc_ge (x := y) (by omega)]; simp; omega, by rw [← HY.out, numEnc_ge (x := y) (by omega), HZ.out]; simp⟩
      case measure => simp [intOf]; omega


set_option maxHeartbeats 400000 in
theorem refPieceT {base A c n A1 c1 B m} {xs zs : List Int} (w : World) (ho : ownsT w base 5 1 (.slice A n c) n (bv xs)) (hb : base ≤ w.heap.size) (hr : Rb w B A1 zs) (hB : B ≤ w.heap.size) (hs : zs = [] ∨ Sep A A1) (hn : n + 1048592 ≤ 140737488355328) (hz : zs.length ≤ 1048576) (hm : zs.length = m) :
    Calls Try.prog 52 #[.slice A n c, .slice A1 m c1] w fun e w' => ∃ A' c', e = .returned (.tuple #[.slice A' (n + (numEnc zs.length).length + zs.length) c', .int .i64 0]) ∧ AppT base 5 1 w (.slice A n c) w' (.slice A' (n + (numEnc zs.length).length + zs.length) c') (n + (numEnc zs.length).length + zs.length) (bv (xs ++ (numEnc zs.length ++ zs))) := by
  subst hm
  have hx : zs.length < 18446744073709551616 := by omega
  have hl := numEnc_u64 hx
  go_enter Try.func52, Try.ntmps52
  go_wp2_with fail
  refine (refNumberT w ho hb hx (by omega)).mono ?_
  rintro e w1 ⟨A', c', rfl, happ, hne⟩
  have hr1 : Rb w1 B A1 zs := by
    rcases hs with h0 | hs
    · rw [h0]; exact Rd.nil
    · exact hr.apart hB happ.grown hs
  go_wp2_with (at_builtin; go_loud (refine wpList_appbT _ rfl (.tmp 13) (.tmp 14) rfl base _ _ _ rfl happ.own B A1 zs.length c1 zs rfl rfl hr1 (by omega) (by have := happ.heap; omega) ?_))
  intro A2 c2 w2 h2 hne2
  go_wp2
  go_ret2
  exact ⟨A2, c2, rfl, happ.trans h2⟩


set_option maxHeartbeats 400000 in
theorem dEight {base A c n x} {xs : List Int} (w : World) (ho : ownsT w base 5 1 (.slice A n c) n (bv xs)) (hb : base ≤ w.heap.size) (hx : x < 18446744073709551616) (hn : n + 10 ≤ 140737488355328) :
    Calls Try.prog 51 #[.slice A n c, .int .u64 (x : Nat)] w (RetAppT base 5 1 w (.slice A n c) (n + 8) (bv (xs ++ ordEnc x)) (fun _ => True)) := by
  go_enter Try.func51, Try.ntmps51
  go_wp2
  go_loopw [0, 5] (fun v i wr => ∃ (A' : Option Addr) (c' m k : Nat) (j : Int) (ys : List Int), k ≤ 8 ∧ v = .slice A' m c' ∧ i = .int .i64 j ∧ (k : Int) - 1 ≤ j ∧ j ≤ (k : Int) - 1 ∧ AppT base 5 1 w (.slice A n c) wr (.slice A' m c') m (bv ys) ∧ m + k = n + 8 ∧ ys ++ ordTo x k = xs ++ ordEnc x) (fun _ i _ => (intOf i + 8).toNat)
  case atStart => exact ⟨A, c, n, 8, _, xs, by omega, rfl, rfl, by omega, by omega, AppT.refl ho, rfl, rfl⟩
  case round =>
    obtain ⟨A', c', m, k, j, ys, hk, rfl, rfl, hj1, hj2, happ, hm, hys⟩ := hrel
    have HM := Lib.hid hm
    have HY := Lib.hid hys
    have hmb : m + 1 ≤ 140737488355328 ∨ k = 0 := by omega
    clear hm hys
    cases k with
    | zero =>
      have hj : j < 0 := by omega
      go_wp2
      go_ret
      have e1 : m = n + 8 := HM.out
      have e2 : ys = xs ++ ordEnc x := by rw [← HY.out]; simp [ordTo]
      exact ⟨A', c', by rw [← e1]; rfl, by rw [← e1, ← e2]; exact happ, trivial⟩
    | succ k =>
      have hj : 0 ≤ j := by omega
      have hmb' : m + 1 ≤ 140737488355328 := by omega
      clear hmb
      obtain ⟨z, hz⟩ : ∃ z : Int, z = ((x / 256 ^ k % 256 : Nat) : Int) := ⟨_, rfl⟩
      have hval : (x : Int) / 2 ^ (8 * j).toNat % 256 = z := by rw [hz]; exact shr_byte k (by omega)
      have HZ := Lib.hid hz
      clear hz
      go_wp2_with (at_builtin; go_loud (refine wpList_appbT _ rfl (.tmp 10) (.tmp 17) rfl base _ m ys rfl (happ.own.alloc _) _ _ 1 1 [z] rfl rfl (Rd.lit _ _ _) hmb' (by have := happ.heap; simp; omega) ?_))
      intro A2 c2 w2 h2 hne
      go_wp2
      go_roundw
      case rel =>
        exact ⟨A2, c2, m + 1, k, j - 1, ys ++ [z], by omega, rfl, by go_num, by omega, by omega, (happ.alloc _).trans h2, by have := HM.out; omega, by rw [← HY.out, HZ.out]; simp [ordTo]⟩
      case measure => simp [intOf]; omega



/-- A text put behind bytes. -/
theorem pieceS {base A c n A' c' m ca : _} {w wr : World} {ys : List Int} {D : Array Value} {F : Nat × Nat} (s : ByteArray) (h : AppT base 5 1 w (.slice A n c) wr (.slice A' m c') m (bv ys)) (hD : ∀ (j : Nat) (u : Value), (bv (nums s))[j]? = some u → D[j]? = some u)
    (hs : s.size ≤ 128) (hm : m ≤ 1099511700000) (hbase : base ≤ w.heap.size) :
    Calls Try.prog 52 #[.slice A' m c', .slice (some ⟨wr.heap.size, 0, none⟩) s.size ca] (wr.alloc (.cells D 5 F)).drew fun e w' => ∃ A5 c5, e = .returned (.tuple #[.slice A5 (m + (pie s).length) c5, .int .i64 0]) ∧ AppT base 5 1 w (.slice A n c) w' (.slice A5 (m + (pie s).length) c5) (m + (pie s).length) (bv (ys ++ pie s)) := by
  have h2 := (h.alloc (.cells D 5 F)).drew
  have hr2 := Rd.drew (Rd.of_alloc (w := wr) (t := 5) (fr := F) hD)
  have hsep : Sep A' (some ⟨wr.heap.size, 0, none⟩) := fun a1 a2 q1 q2 e => by
    subst q1
    have h3 := (h.own.lt a1.block rfl).2
    have e' : a1.block = wr.heap.size := by rw [e, ← Option.some.inj q2]
    omega
  refine (refPieceT (m := s.size) _ h2.own (by have := h.heap; show _ ≤ (wr.alloc _).heap.size; simp; omega) hr2 (by show _ ≤ (wr.alloc _).heap.size; simp) (.inr hsep) (by omega) (by rw [nums_len]; omega) (nums_len s)).mono ?_
  rintro e w5 ⟨A5, c5, rfl, happ5⟩
  have h5 := h2.trans happ5
  have e2 : m + (numEnc (nums s).length).length + (nums s).length = m + (pie s).length := by
    rw [pie, List.length_append, nums_len]
    omega
  have e3 : numEnc (nums s).length ++ nums s = pie s := by rw [pie, nums_len]
  rw [e2, e3] at h5
  exact ⟨A5, c5, by rw [e2], h5⟩
end Go.Proofs.Ytohnpogoldbplaa
