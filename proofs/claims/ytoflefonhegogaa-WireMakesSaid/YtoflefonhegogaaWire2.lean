/- Contracts of wire's and bootprintref01's writers, more: Size, Ordered, OrderedText. -/
import Derived.Test.YtoflefonhegogaaWire1
import Derived.Test.YtoflefonhegogaaShelf
namespace Go.Proofs.Ytoflefonhegogaa
open Go.RowKit

theorem sizeOf_num : ∀ (x : Nat), x < 18446744073709551616 → max 1 ((Lib.bitLen x + 6) / 7) = (numEnc x).length := by
  intro x
  induction x using numEnc.induct with
  | case1 x h =>
    intro hx
    rw [numEnc_lt h]
    have := Lib.bitLen_le x 7 (by omega) (by omega)
    simp only [List.length_cons, List.length_nil]
    omega
  | case2 x h ih =>
    intro hx
    have h1 := ih (by omega)
    have h2 := Lib.bitLen_shift 7 x (by omega) hx
    rw [numEnc_ge (by omega), List.length_cons, ← h1]
    have e : 2 ^ 7 = 128 := rfl
    rw [e] at h2
    have hp : 0 < Lib.bitLen (x / 128) := by
      have := Lib.bitLen_half (x / 128) (by omega) (by omega)
      omega
    omega

set_option maxHeartbeats 400000 in
theorem wireSize {x : Nat} (w : World) (hx : x < 18446744073709551616) :
    Calls Try.prog 16 #[.int .u64 (x : Nat)] w fun e w' => e = .returned (.int .i64 (numEnc x).length) ∧ w = w' := by
  have hs := sizeOf_num x hx
  have hl := Lib.bitLen_le x 64 (by omega) hx
  generalize hb : Lib.bitLen x = b at *
  have HB := Lib.hid hb
  have HS := Lib.hid hs
  clear hb hs
  go_enter Try.func16, Try.ntmps16
  go_wp2_with fail
  refine (Try.bits_Len64 _ _ (by omega) (by omega)).mono ?_
  rintro e w1 ⟨rfl, hw⟩
  subst hw
  rw [Int.toNat_natCast, HB.out]
  go_wp2
  go_ret
  exact ⟨congrArg Ending.returned (congrArg (Value.int IntKind.i64) (by rw [← HS.out]; show max 1 (((b : Int) + 6) / 7) = _; omega)), rfl⟩

theorem shr_byte {x : Nat} {e : Nat} (k : Nat) (h : e = 8 * k) : (x : Int) / 2 ^ e % 256 = ((x / 256 ^ k % 256 : Nat) : Int) := by
  subst h
  have e : (2 : Nat) ^ (8 * k) = 256 ^ k := by rw [Nat.pow_mul]
  rw [← e]
  simp

set_option maxHeartbeats 400000 in
theorem wireOrdered {base A c n x} {xs : List Int} (w : World) (ho : w.ownsRow base 5 1 (.slice A n c) n (bv xs)) (hb : base ≤ w.heap.size) (hx : x < 18446744073709551616) (hn : n + 10 ≤ 140737488355328) :
    Calls Try.prog 21 #[.slice A n c, .int .u64 (x : Nat)] w (RetApp base 5 1 w (.slice A n c) (n + 8) (bv (xs ++ ordEnc x)) (fun _ => True)) := by
  go_enter Try.func21, Try.ntmps21
  go_wp2
  go_loopw [0, 5] (fun v i wr => ∃ (A' : Option Addr) (c' m k : Nat) (j : Int) (ys : List Int), k ≤ 8 ∧ v = .slice A' m c' ∧ i = .int .i64 j ∧ 8 * (k : Int) - 8 ≤ j ∧ j ≤ 8 * (k : Int) - 8 ∧ App base 5 1 w (.slice A n c) wr (.slice A' m c') m (bv ys) ∧ m + k = n + 8 ∧ ys ++ ordTo x k = xs ++ ordEnc x) (fun _ i _ => (intOf i + 8).toNat)
  case atStart => exact ⟨A, c, n, 8, _, xs, by omega, rfl, rfl, by omega, by omega, App.refl ho, rfl, rfl⟩
  case round =>
    obtain ⟨A', c', m, k, j, ys, hk, rfl, rfl, hj1, hj2, happ, hm, hys⟩ := hrel
    have HM := Lib.hid hm
    have HY := Lib.hid hys
    have hmb : m + 1 ≤ 140737488355328 ∨ k = 0 := by omega
    clear hm hys
    cases k with
    | zero =>
      have hj : j < 0 := by omega
      go_wp2
      go_ret
      have e1 : m = n + 8 := HM.out
      have e2 : ys = xs ++ ordEnc x := by rw [← HY.out]; simp [ordTo]
      exact ⟨A', c', by rw [← e1]; rfl, by rw [← e1, ← e2]; exact happ, trivial⟩
    | succ k =>
      have hj : 0 ≤ j := by omega
      have hmb' : m + 1 ≤ 140737488355328 := by omega
      clear hmb
      obtain ⟨z, hz⟩ : ∃ z : Int, z = ((x / 256 ^ k % 256 : Nat) : Int) := ⟨_, rfl⟩
      have hval : (x : Int) / 2 ^ (j).toNat % 256 = z := by rw [hz]; exact shr_byte k (by omega)
      have HZ := Lib.hid hz
      clear hz
      go_wp2_with (at_builtin; go_loud (refine wpList_appb _ rfl (.tmp 10) (.tmp 15) rfl base _ m ys rfl (happ.own.alloc _) _ _ 1 1 [z] rfl rfl (Rd.lit _ _ _) hmb' (by have := happ.heap; simp; omega) ?_))
      intro A2 c2 w2 h2 hne
      go_wp2
      go_roundw
      case rel =>
        exact ⟨A2, c2, m + 1, k, j - 8, ys ++ [z], by omega, rfl, by go_num, by omega, by omega, (happ.alloc _).trans h2, by have := HM.out; omega, by rw [← HY.out, HZ.out]; simp [ordTo]⟩
      case measure => simp [intOf]; omega

set_option maxHeartbeats 400000 in
theorem refOrdered {base A c n x} {xs : List Int} (w : World) (ho : w.ownsRow base 5 1 (.slice A n c) n (bv xs)) (hb : base ≤ w.heap.size) (hx : x < 18446744073709551616) (hn : n + 10 ≤ 140737488355328) :
    Calls Try.prog 22 #[.slice A n c, .int .u64 (x : Nat)] w (RetApp base 5 1 w (.slice A n c) (n + 8) (bv (xs ++ ordEnc x)) (fun _ => True)) := by
  go_enter Try.func22, Try.ntmps22
  go_wp2
  go_loopw [0, 5] (fun v i wr => ∃ (A' : Option Addr) (c' m k : Nat) (j : Int) (ys : List Int), k ≤ 8 ∧ v = .slice A' m c' ∧ i = .int .i64 j ∧ (k : Int) - 1 ≤ j ∧ j ≤ (k : Int) - 1 ∧ App base 5 1 w (.slice A n c) wr (.slice A' m c') m (bv ys) ∧ m + k = n + 8 ∧ ys ++ ordTo x k = xs ++ ordEnc x) (fun _ i _ => (intOf i + 8).toNat)
  case atStart => exact ⟨A, c, n, 8, _, xs, by omega, rfl, rfl, by omega, by omega, App.refl ho, rfl, rfl⟩
  case round =>
    obtain ⟨A', c', m, k, j, ys, hk, rfl, rfl, hj1, hj2, happ, hm, hys⟩ := hrel
    have HM := Lib.hid hm
    have HY := Lib.hid hys
    have hmb : m + 1 ≤ 140737488355328 ∨ k = 0 := by omega
    clear hm hys
    cases k with
    | zero =>
      have hj : j < 0 := by omega
      go_wp2
      go_ret
      have e1 : m = n + 8 := HM.out
      have e2 : ys = xs ++ ordEnc x := by rw [← HY.out]; simp [ordTo]
      exact ⟨A', c', by rw [← e1]; rfl, by rw [← e1, ← e2]; exact happ, trivial⟩
    | succ k =>
      have hj : 0 ≤ j := by omega
      have hmb' : m + 1 ≤ 140737488355328 := by omega
      clear hmb
      obtain ⟨z, hz⟩ : ∃ z : Int, z = ((x / 256 ^ k % 256 : Nat) : Int) := ⟨_, rfl⟩
      have hval : (x : Int) / 2 ^ (8 * j).toNat % 256 = z := by rw [hz]; exact shr_byte k (by omega)
      have HZ := Lib.hid hz
      clear hz
      go_wp2_with (at_builtin; go_loud (refine wpList_appb _ rfl (.tmp 10) (.tmp 17) rfl base _ m ys rfl (happ.own.alloc _) _ _ 1 1 [z] rfl rfl (Rd.lit _ _ _) hmb' (by have := happ.heap; simp; omega) ?_))
      intro A2 c2 w2 h2 hne
      go_wp2
      go_roundw
      case rel =>
        exact ⟨A2, c2, m + 1, k, j - 1, ys ++ [z], by omega, rfl, by go_num, by omega, by omega, (happ.alloc _).trans h2, by have := HM.out; omega, by rw [← HY.out, HZ.out]; simp [ordTo]⟩
      case measure => simp [intOf]; omega


theorem take_snoc' {α : Type} {l : List α} {k : Nat} {x : α} (h : l[k]? = some x) : l.take (k + 1) = l.take k ++ [x] := by
  rw [List.take_add_one, h]; rfl

set_option maxHeartbeats 400000 in
theorem wireOrderedText {base A c n} {s : ByteArray} {xs : List Int} (w : World) (ho : w.ownsRow base 5 1 (.slice A n c) n (bv xs)) (hb : base ≤ w.heap.size) (hs : s.size ≤ 1073741824) (hn : n ≤ 1099511627776) :
    Calls Try.prog 23 #[.slice A n c, .string s] w (RetApp base 5 1 w (.slice A n c) (xs ++ txtEnc (nums s)).length (bv (xs ++ txtEnc (nums s))) (· ≠ none)) := by
  have hnx := own_length ho
  rw [bv_length] at hnx
  have HN := Lib.hid hnx
  clear hnx
  go_enter Try.func23, Try.ntmps23
  go_wp2
  go_loopw [0, 8] (fun v i wr => ∃ (A' : Option Addr) (c' m k : Nat) (ys : List Int), k ≤ s.size ∧ v = .slice A' m c' ∧ i = .int .i64 (k : Nat) ∧ App base 5 1 w (.slice A n c) wr (.slice A' m c') m (bv ys) ∧ m ≤ n + 2 * k ∧ ys = xs ++ txtTo ((nums s).take k)) (fun _ i _ => s.size - (intOf i).toNat)
  case atStart => exact ⟨A, c, n, 0, xs, by omega, rfl, rfl, App.refl ho, by omega, by simp [txtTo]⟩
  case round =>
    obtain ⟨A', c', m, k, ys, hk, rfl, rfl, happ, hm, hys⟩ := hrel
    have HY := Lib.hid hys
    clear hys
    by_cases hlt : k < s.size
    · obtain ⟨z, hz⟩ : ∃ z : Int, z = ((s[k]'hlt).toNat : Int) := ⟨_, rfl⟩
      have hzz : ((s[k]'hlt).toNat : Int) = z := hz.symm
      have HZ : Hid ((nums s)[k]? = some z) := by rw [hz]; exact nums_get hlt
      clear hz
      by_cases h0 : z = 0
      · subst h0
        go_wp2_with (at_builtin; refine wpList_appb _ rfl (.tmp 11) (.tmp 15) rfl base _ m ys rfl (happ.own.alloc _) _ _ 1 1 [0] rfl rfl (Rd.lit _ _ _) (by omega) (by have := happ.heap; simp; omega) ?_)
        intro A2 c2 w2 h2 hne
        have h2' := (happ.alloc _).trans h2
        go_wp2_with (at_builtin; refine wpList_appb _ rfl (.tmp 21) (.tmp 22) rfl base _ (m + 1) (ys ++ [0]) rfl (h2.own.alloc _) _ _ 1 1 [255] rfl rfl (Rd.lit _ _ _) (by omega) (by have := h2'.heap; simp; omega) ?_)
        intro A3 c3 w3 h3 hne3
        go_wp2
        go_roundw
        case rel =>
          exact ⟨A3, c3, m + 1 + 1, k + 1, ys ++ [0] ++ [255], by omega, rfl, by go_num, (h2'.alloc _).trans (by simpa using h3), by omega, by rw [take_snoc' HZ.out, txtTo_snoc0, HY.out]; simp⟩
        case measure => simp [intOf]; omega
      · have hne0 : (z == 0) = false := by simp [h0]
        go_wp2_with (at_builtin; refine wpList_appb _ rfl (.tmp 11) (.tmp 15) rfl base _ m ys rfl (happ.own.alloc _) _ _ 1 1 [z] rfl rfl (Rd.lit _ _ _) (by omega) (by have := happ.heap; simp; omega) ?_)
        intro A2 c2 w2 h2 hne
        have h2' := (happ.alloc _).trans h2
        go_wp2
        go_roundw
        case rel =>
          exact ⟨A2, c2, m + 1, k + 1, ys ++ [z], by omega, rfl, by go_num, h2', by omega, by rw [take_snoc' HZ.out, txtTo_snoc _ h0, HY.out]; simp⟩
        case measure => simp [intOf]; omega
    · go_wp2_with (at_builtin; refine wpList_appb _ rfl (.tmp 25) (.tmp 26) rfl base _ m ys rfl (happ.own.alloc _) _ _ 2 2 [0, 1] rfl rfl (Rd.lit _ _ _) (by omega) (by have := happ.heap; simp; omega) ?_)
      intro A2 c2 w2 h2 hne
      have h2' := (happ.alloc _).trans h2
      go_wp2
      go_ret
      have e2 : ys ++ [0, 1] = xs ++ txtEnc (nums s) := by rw [HY.out, List.take_of_length_le (by rw [nums_len]; omega)]; simp [txtEnc]
      have e1 : m + 2 = (xs ++ txtEnc (nums s)).length := by
        have := own_length h2'.own
        rw [bv_length, e2] at this
        exact this.symm
      exact ⟨A2, c2, by rw [← e1]; rfl, by rw [← e1, ← e2]; exact h2', hne⟩

set_option maxHeartbeats 400000 in
theorem refOrderedText {base A c n} {s : ByteArray} {xs : List Int} (w : World) (ho : w.ownsRow base 5 1 (.slice A n c) n (bv xs)) (hb : base ≤ w.heap.size) (hs : s.size ≤ 1073741824) (hn : n ≤ 1099511627776) :
    Calls Try.prog 24 #[.slice A n c, .string s] w (RetApp base 5 1 w (.slice A n c) (xs ++ txtEnc (nums s)).length (bv (xs ++ txtEnc (nums s))) (· ≠ none)) := by
  have hnx := own_length ho
  rw [bv_length] at hnx
  have HN := Lib.hid hnx
  clear hnx
  go_enter Try.func24, Try.ntmps24
  go_wp2
  go_loopw [0, 5] (fun v i wr => ∃ (A' : Option Addr) (c' m k : Nat) (ys : List Int), k ≤ s.size ∧ v = .slice A' m c' ∧ i = .int .i64 (k : Nat) ∧ App base 5 1 w (.slice A n c) wr (.slice A' m c') m (bv ys) ∧ m ≤ n + 2 * k ∧ ys = xs ++ txtTo ((nums s).take k)) (fun _ i _ => s.size - (intOf i).toNat)
  case atStart => exact ⟨A, c, n, 0, xs, by omega, rfl, rfl, App.refl ho, by omega, by simp [txtTo]⟩
  case round =>
    obtain ⟨A', c', m, k, ys, hk, rfl, rfl, happ, hm, hys⟩ := hrel
    have HY := Lib.hid hys
    clear hys
    by_cases hlt : k < s.size
    · obtain ⟨z, hz⟩ : ∃ z : Int, z = ((s[k]'hlt).toNat : Int) := ⟨_, rfl⟩
      have hzz : ((s[k]'hlt).toNat : Int) = z := hz.symm
      have HZ : Hid ((nums s)[k]? = some z) := by rw [hz]; exact nums_get hlt
      clear hz
      by_cases h0 : z = 0
      · subst h0
        go_wp2_with (at_builtin; refine wpList_appb _ rfl (.tmp 12) (.tmp 16) rfl base _ m ys rfl (happ.own.alloc _) _ _ 1 1 [0] rfl rfl (Rd.lit _ _ _) (by omega) (by have := happ.heap; simp; omega) ?_)
        intro A2 c2 w2 h2 hne
        have h2' := (happ.alloc _).trans h2
        go_wp2_with (at_builtin; refine wpList_appb _ rfl (.tmp 22) (.tmp 23) rfl base _ (m + 1) (ys ++ [0]) rfl (h2.own.alloc _) _ _ 1 1 [255] rfl rfl (Rd.lit _ _ _) (by omega) (by have := h2'.heap; simp; omega) ?_)
        intro A3 c3 w3 h3 hne3
        go_wp2
        go_roundw
        case rel =>
          exact ⟨A3, c3, m + 1 + 1, k + 1, ys ++ [0] ++ [255], by omega, rfl, by go_num, (h2'.alloc _).trans (by simpa using h3), by omega, by rw [take_snoc' HZ.out, txtTo_snoc0, HY.out]; simp⟩
        case measure => simp [intOf]; omega
      · have hne0 : (z == 0) = false := by simp [h0]
        go_wp2_with (at_builtin; refine wpList_appb _ rfl (.tmp 12) (.tmp 16) rfl base _ m ys rfl (happ.own.alloc _) _ _ 1 1 [z] rfl rfl (Rd.lit _ _ _) (by omega) (by have := happ.heap; simp; omega) ?_)
        intro A2 c2 w2 h2 hne
        have h2' := (happ.alloc _).trans h2
        go_wp2
        go_roundw
        case rel =>
          exact ⟨A2, c2, m + 1, k + 1, ys ++ [z], by omega, rfl, by go_num, h2', by omega, by rw [take_snoc' HZ.out, txtTo_snoc _ h0, HY.out]; simp⟩
        case measure => simp [intOf]; omega
    · go_wp2_with (at_builtin; refine wpList_appb _ rfl (.tmp 25) (.tmp 26) rfl base _ m ys rfl (happ.own.alloc _) _ _ 2 2 [0, 1] rfl rfl (Rd.lit _ _ _) (by omega) (by have := happ.heap; simp; omega) ?_)
      intro A2 c2 w2 h2 hne
      have h2' := (happ.alloc _).trans h2
      go_wp2
      go_ret
      have e2 : ys ++ [0, 1] = xs ++ txtEnc (nums s) := by rw [HY.out, List.take_of_length_le (by rw [nums_len]; omega)]; simp [txtEnc]
      have e1 : m + 2 = (xs ++ txtEnc (nums s)).length := by
        have := own_length h2'.own
        rw [bv_length, e2] at this
        exact this.symm
      exact ⟨A2, c2, by rw [← e1]; rfl, by rw [← e1, ← e2]; exact h2', hne⟩
end Go.Proofs.Ytoflefonhegogaa
