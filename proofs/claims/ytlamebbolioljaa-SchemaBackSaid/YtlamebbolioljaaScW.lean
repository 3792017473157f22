/- What keys want of wire and of bootprintref01: numbers and texts in order, put and read. (Lines of Wire2 and Wire4.) -/
import Derived.Test.YtlamebbolioljaaWireRO
namespace Go.Proofs.Ytlamebbolioljaa
open Go.RowKit

set_option maxHeartbeats 400000 in
theorem refOrdered {base A c n x} {xs : List Int} (w : World) (ho : w.ownsRow base 5 1 (.slice A n c) n (bv xs)) (hb : base ≤ w.heap.size) (hx : x < 18446744073709551616) (hn : n + 10 ≤ 140737488355328) :
    Calls Try.prog 58 #[.slice A n c, .int .u64 (x : Nat)] w (RetApp base 5 1 w (.slice A n c) (n + 8) (bv (xs ++ ordEnc x)) (fun _ => True)) := by
  go_enter Try.func58, Try.ntmps58
  go_wp2
  go_loopw [0, 5] (fun v i wr => ∃ (A' : Option Addr) (c' m k : Nat) (j : Int) (ys : List Int), k ≤ 8 ∧ v = .slice A' m c' ∧ i = .int .i64 j ∧ (k : Int) - 1 ≤ j ∧ j ≤ (k : Int) - 1 ∧ App base 5 1 w (.slice A n c) wr (.slice A' m c') m (bv ys) ∧ m + k = n + 8 ∧ ys ++ ordTo x k = xs ++ ordEnc x) (fun _ i _ => (intOf i + 8).toNat)
  case atStart => exact ⟨A, c, n, 8, _, xs, by omega, rfl, rfl, by omega, by omega, App.refl ho, rfl, rfl⟩
  case round =>
    obtain ⟨A', c', m, k, j, ys, hk, rfl, rfl, hj1, hj2, happ, hm, hys⟩ := hrel
    have HM := Lib.hid hm
    have HY := Lib.hid hys
    have hmb : m + 1 ≤ 140737488355328 ∨ k = 0 := by omega
    clear hm hys
    cases k with
    | zero =>
      have hj : j < 0 := by omega
      go_wp2
      go_ret
      have e1 : m = n + 8 := HM.out
      have e2 : ys = xs ++ ordEnc x := by rw [← HY.out]; simp [ordTo]
      exact ⟨A', c', by rw [← e1]; rfl, by rw [← e1, ← e2]; exact happ, trivial⟩
    | succ k =>
      have hj : 0 ≤ j := by omega
      have hmb' : m + 1 ≤ 140737488355328 := by omega
      clear hmb
      obtain ⟨z, hz⟩ : ∃ z : Int, z = ((x / 256 ^ k % 256 : Nat) : Int) := ⟨_, rfl⟩
      have hval : (x : Int) / 2 ^ (8 * j).toNat % 256 = z := by rw [hz]; exact shr_byte k (by omega)
      have HZ := Lib.hid hz
      clear hz
      go_wp2_with (at_builtin; go_loud (refine wpList_appb _ rfl (.tmp 10) (.tmp 17) rfl base _ m ys rfl (happ.own.alloc _) _ _ 1 1 [z] rfl rfl (Rd.lit _ _ _) hmb' (by have := happ.heap; simp; omega) ?_))
      intro A2 c2 w2 h2 hne
      go_wp2
      go_roundw
      case rel =>
        exact ⟨A2, c2, m + 1, k, j - 1, ys ++ [z], by omega, rfl, by go_num, by omega, by omega, (happ.alloc _).trans h2, by have := HM.out; omega, by rw [← HY.out, HZ.out]; simp [ordTo]⟩
      case measure => simp [intOf]; omega


theorem take_snoc' {α : Type} {l : List α} {k : Nat} {x : α} (h : l[k]? = some x) : l.take (k + 1) = l.take k ++ [x] := by
  rw [List.take_add_one, h]; rfl

set_option maxHeartbeats 400000 in
theorem wireOrderedText {base A c n} {s : ByteArray} {xs : List Int} (w : World) (ho : w.ownsRow base 5 1 (.slice A n c) n (bv xs)) (hb : base ≤ w.heap.size) (hs : s.size ≤ 1073741824) (hn : n ≤ 1099511627776) :
    Calls Try.prog 57 #[.slice A n c, .string s] w (RetApp base 5 1 w (.slice A n c) (xs ++ txtEnc (nums s)).length (bv (xs ++ txtEnc (nums s))) (· ≠ none)) := by
  have hnx := own_length ho
  rw [bv_length] at hnx
  have HN := Lib.hid hnx
  clear hnx
  go_enter Try.func57, Try.ntmps57
  go_wp2
  go_loopw [0, 8] (fun v i wr => ∃ (A' : Option Addr) (c' m k : Nat) (ys : List Int), k ≤ s.size ∧ v = .slice A' m c' ∧ i = .int .i64 (k : Nat) ∧ App base 5 1 w (.slice A n c) wr (.slice A' m c') m (bv ys) ∧ m ≤ n + 2 * k ∧ ys = xs ++ txtTo ((nums s).take k)) (fun _ i _ => s.size - (intOf i).toNat)
  case atStart => exact ⟨A, c, n, 0, xs, by omega, rfl, rfl, App.refl ho, by omega, by simp [txtTo]⟩
  case round =>
    obtain ⟨A', c', m, k, ys, hk, rfl, rfl, happ, hm, hys⟩ := hrel
    have HY := Lib.hid hys
    clear hys
    by_cases hlt : k < s.size
    · obtain ⟨z, hz⟩ : ∃ z : Int, z = ((s[k]'hlt).toNat : Int) := ⟨_, rfl⟩
      have hzz : ((s[k]'hlt).toNat : Int) = z := hz.symm
      have HZ : Hid ((nums s)[k]? = some z) := by rw [hz]; exact nums_get hlt
      clear hz
      by_cases h0 : z = 0
      · subst h0
        go_wp2_with (at_builtin; refine wpList_appb _ rfl (.tmp 11) (.tmp 15) rfl base _ m ys rfl (happ.own.alloc _) _ _ 1 1 [0] rfl rfl (Rd.lit _ _ _) (by omega) (by have := happ.heap; simp; omega) ?_)
        intro A2 c2 w2 h2 hne
        have h2' := (happ.alloc _).trans h2
        go_wp2_with (at_builtin; refine wpList_appb _ rfl (.tmp 21) (.tmp 22) rfl base _ (m + 1) (ys ++ [0]) rfl (h2.own.alloc _) _ _ 1 1 [255] rfl rfl (Rd.lit _ _ _) (by omega) (by have := h2'.heap; simp; omega) ?_)
        intro A3 c3 w3 h3 hne3
        go_wp2
        go_roundw
        case rel =>
          exact ⟨A3, c3, m + 1 + 1, k + 1, ys ++ [0] ++ [255], by omega, rfl, by go_num, (h2'.alloc _).trans (by simpa using h3), by omega, by rw [take_snoc' HZ.out, txtTo_snoc0, HY.out]; simp⟩
        case measure => simp [intOf]; omega
      · have hne0 : (z == 0) = false := by simp [h0]
        go_wp2_with (at_builtin; refine wpList_appb _ rfl (.tmp 11) (.tmp 15) rfl base _ m ys rfl (happ.own.alloc _) _ _ 1 1 [z] rfl rfl (Rd.lit _ _ _) (by omega) (by have := happ.heap; simp; omega) ?_)
        intro A2 c2 w2 h2 hne
        have h2' := (happ.alloc _).trans h2
        go_wp2
        go_roundw
        case rel =>
          exact ⟨A2, c2, m + 1, k + 1, ys ++ [z], by omega, rfl, by go_num, h2', by omega, by rw [take_snoc' HZ.out, txtTo_snoc _ h0, HY.out]; simp⟩
        case measure => simp [intOf]; omega
    · go_wp2_with (at_builtin; refine wpList_appb _ rfl (.tmp 25) (.tmp 26) rfl base _ m ys rfl (happ.own.alloc _) _ _ 2 2 [0, 1] rfl rfl (Rd.lit _ _ _) (by omega) (by have := happ.heap; simp; omega) ?_)
      intro A2 c2 w2 h2 hne
      have h2' := (happ.alloc _).trans h2
      go_wp2
      go_ret
      have e2 : ys ++ [0, 1] = xs ++ txtEnc (nums s) := by rw [HY.out, List.take_of_length_le (by rw [nums_len]; omega)]; simp [txtEnc]
      have e1 : m + 2 = (xs ++ txtEnc (nums s)).length := by
        have := own_length h2'.own
        rw [bv_length, e2] at this
        exact this.symm
      exact ⟨A2, c2, by rw [← e1]; rfl, by rw [← e1, ← e2]; exact h2', hne⟩

set_option maxHeartbeats 400000 in
theorem refOrderedText {base A c n} {s : ByteArray} {xs : List Int} (w : World) (ho : w.ownsRow base 5 1 (.slice A n c) n (bv xs)) (hb : base ≤ w.heap.size) (hs : s.size ≤ 1073741824) (hn : n ≤ 1099511627776) :
    Calls Try.prog 59 #[.slice A n c, .string s] w (RetApp base 5 1 w (.slice A n c) (xs ++ txtEnc (nums s)).length (bv (xs ++ txtEnc (nums s))) (· ≠ none)) := by
  have hnx := own_length ho
  rw [bv_length] at hnx
  have HN := Lib.hid hnx
  clear hnx
  go_enter Try.func59, Try.ntmps59
  go_wp2
  go_loopw [0, 5] (fun v i wr => ∃ (A' : Option Addr) (c' m k : Nat) (ys : List Int), k ≤ s.size ∧ v = .slice A' m c' ∧ i = .int .i64 (k : Nat) ∧ App base 5 1 w (.slice A n c) wr (.slice A' m c') m (bv ys) ∧ m ≤ n + 2 * k ∧ ys = xs ++ txtTo ((nums s).take k)) (fun _ i _ => s.size - (intOf i).toNat)
  case atStart => exact ⟨A, c, n, 0, xs, by omega, rfl, rfl, App.refl ho, by omega, by simp [txtTo]⟩
  case round =>
    obtain ⟨A', c', m, k, ys, hk, rfl, rfl, happ, hm, hys⟩ := hrel
    have HY := Lib.hid hys
    clear hys
    by_cases hlt : k < s.size
    · obtain ⟨z, hz⟩ : ∃ z : Int, z = ((s[k]'hlt).toNat : Int) := ⟨_, rfl⟩
      have hzz : ((s[k]'hlt).toNat : Int) = z := hz.symm
      have HZ : Hid ((nums s)[k]? = some z) := by rw [hz]; exact nums_get hlt
      clear hz
      by_cases h0 : z = 0
      · subst h0
        go_wp2_with (at_builtin; refine wpList_appb _ rfl (.tmp 12) (.tmp 16) rfl base _ m ys rfl (happ.own.alloc _) _ _ 1 1 [0] rfl rfl (Rd.lit _ _ _) (by omega) (by have := happ.heap; simp; omega) ?_)
        intro A2 c2 w2 h2 hne
        have h2' := (happ.alloc _).trans h2
        go_wp2_with (at_builtin; refine wpList_appb _ rfl (.tmp 22) (.tmp 23) rfl base _ (m + 1) (ys ++ [0]) rfl (h2.own.alloc _) _ _ 1 1 [255] rfl rfl (Rd.lit _ _ _) (by omega) (by have := h2'.heap; simp; omega) ?_)
        intro A3 c3 w3 h3 hne3
        go_wp2
        go_roundw
        case rel =>
          exact ⟨A3, c3, m + 1 + 1, k + 1, ys ++ [0] ++ [255], by omega, rfl, by go_num, (h2'.alloc _).trans (by simpa using h3), by omega, by rw [take_snoc' HZ.out, txtTo_snoc0, HY.out]; simp⟩
        case measure => simp [intOf]; omega
      · have hne0 : (z == 0) = false := by simp [h0]
        go_wp2_with (at_builtin; refine wpList_appb _ rfl (.tmp 12) (.tmp 16) rfl base _ m ys rfl (happ.own.alloc _) _ _ 1 1 [z] rfl rfl (Rd.lit _ _ _) (by omega) (by have := happ.heap; simp; omega) ?_)
        intro A2 c2 w2 h2 hne
        have h2' := (happ.alloc _).trans h2
        go_wp2
        go_roundw
        case rel =>
          exact ⟨A2, c2, m + 1, k + 1, ys ++ [z], by omega, rfl, by go_num, h2', by omega, by rw [take_snoc' HZ.out, txtTo_snoc _ h0, HY.out]; simp⟩
        case measure => simp [intOf]; omega
    · go_wp2_with (at_builtin; refine wpList_appb _ rfl (.tmp 25) (.tmp 26) rfl base _ m ys rfl (happ.own.alloc _) _ _ 2 2 [0, 1] rfl rfl (Rd.lit _ _ _) (by omega) (by have := happ.heap; simp; omega) ?_)
      intro A2 c2 w2 h2 hne
      have h2' := (happ.alloc _).trans h2
      go_wp2
      go_ret
      have e2 : ys ++ [0, 1] = xs ++ txtEnc (nums s) := by rw [HY.out, List.take_of_length_le (by rw [nums_len]; omega)]; simp [txtEnc]
      have e1 : m + 2 = (xs ++ txtEnc (nums s)).length := by
        have := own_length h2'.own
        rw [bv_length, e2] at this
        exact this.symm
      exact ⟨A2, c2, by rw [← e1]; rfl, by rw [← e1, ← e2]; exact h2', hne⟩
theorem refReadOrdered0 {A : Option Addr} {c n : Nat} (w : World) (h : n < 8) :
    Calls Try.prog 33 #[.slice A n c] w fun e w' => e = .returned (.tuple #[.int .u64 0, .int .i64 0, .int .i64 12]) ∧ w = w' := by
  go_enter Try.func33, Try.ntmps33
  go_wp2
  go_ret3
  exact ⟨rfl, rfl⟩

set_option maxHeartbeats 400000 in
theorem refReadOrdered1 {A : Option Addr} {c n B : Nat} {zs : List Int} (w : World) (ha : Rb w B A zs) (hz : Byt zs) (hl : zs.length ≤ maxLen) (h : 8 ≤ n) (hn : zs.length = n) :
    Calls Try.prog 33 #[.slice A n c] w fun e w' => e = .returned (.tuple #[.int .u64 (ordVal (zs.take 8)), .int .i64 8, .int .i64 0]) ∧ w = w' := by
  subst hn
  unfold maxLen at hl
  go_enter Try.func33, Try.ntmps33
  go_wp2
  go_loop [5, 6] (fun x i => ∃ (k : Nat) (v : Nat), k ≤ 8 ∧ i = .int .i64 k ∧ x = .int .u64 (v : Nat) ∧ v = ordVal (zs.take k)) (fun _ i => 8 - (intOf i).toNat)
  case atStart => exact ⟨0, 0, by omega, rfl, rfl, by simp [ordVal]⟩
  case round =>
    obtain ⟨k, v, hk, rfl, rfl, hv⟩ := hrel
    have hvb : v < 256 ^ k := by rw [hv]; exact ordVal_lt k _ (hz.take k) (by simp; omega)
    have HV := Lib.hid hv
    clear hv
    by_cases hlt : k < 8
    · obtain ⟨b, o, x, hx, rfl, hb, hcell⟩ := ha.get (k := k) (by omega)
      have hxb := hz.get hx
      have hvb' : v < 72057594037927936 := Nat.lt_of_lt_of_le hvb (show 256 ^ k ≤ 256 ^ 7 from Nat.pow_le_pow_right (by omega) (by omega))
      have HX := Lib.hid hx
      clear hx hvb
      go_wp2
      go_round
      case rel => exact ⟨k + 1, v * 256 + x.toNat, by omega, by go_num, congrArg (Value.int IntKind.u64) (by omega), by rw [take_snoc' HX.out, ordVal_snoc, ← HV.out]⟩
      case measure => simp [intOf]; omega
    · obtain rfl : k = 8 := by omega
      go_wp2
      go_ret3
      exact ⟨by rw [HV.out]; rfl, rfl⟩


/-- What a reader of texts in order returns. -/
def TxtRet (w : World) (r : (List Int × Nat) ⊕ Nat) (e : Ending) (w' : World) : Prop :=
  (match r with
   | .inl (out, i) => e = .returned (.tuple #[.string (strOfNums out), .int .i64 i, .int .i64 0])
   | .inr n => e = .returned (.tuple #[.string ByteArray.empty, .int .i64 0, .int .i64 n])) ∧ Below w.heap.size w w'
theorem TxtRet.ok {w w' : World} {r : (List Int × Nat) ⊕ Nat} {out : List Int} {i : Nat} {e : Ending} (h : r = .inl (out, i)) (he : e = .returned (.tuple #[.string (strOfNums out), .int .i64 i, .int .i64 0])) (hb : Below w.heap.size w w') : TxtRet w r e w' := by subst h; exact ⟨he, hb⟩
theorem TxtRet.no {w w' : World} {r : (List Int × Nat) ⊕ Nat} {n : Nat} {e : Ending} (h : r = .inr n) (he : e = .returned (.tuple #[.string ByteArray.empty, .int .i64 0, .int .i64 n])) (hb : Below w.heap.size w w') : TxtRet w r e w' := by subst h; exact ⟨he, hb⟩

set_option maxHeartbeats 1600000 in
theorem wireReadOrderedText {A : Option Addr} {c n B : Nat} {zs : List Int} (w : World) (ha : Rb w B A zs) (hB : B ≤ w.heap.size) (hz : Byt zs) (hl : zs.length ≤ 1099511627776) (hn : zs.length = n) :
    Calls Try.prog 31 #[.slice A n c] w (TxtRet w (txtOf zs)) := by
  subst hn
  go_enter Try.func31, Try.ntmps31
  go_wp2
  go_loopw [5, 6] (fun v i wr => ∃ (A' : Option Addr) (c' k : Nat) (ys : List Int), k ≤ zs.length ∧ v = .slice A' ys.length c' ∧ i = .int .i64 k ∧ App w.heap.size 5 1 w (.slice none 0 0) wr (.slice A' ys.length c') ys.length (bv ys) ∧ ys.length ≤ k ∧ txtR zs k ys = txtOf zs) (fun _ i _ => zs.length - (intOf i).toNat)
  case atStart => exact ⟨none, 0, 0, [], by omega, rfl, rfl, App.refl (World.ownsRow_nil _ _ _ _), by simp, rfl⟩
  case round =>
    obtain ⟨A', c', k, ys, hk, rfl, rfl, happ, hyk, hys⟩ := hrel
    have HY := Lib.hid hys
    clear hys
    have hbel := happ.below0
    by_cases hlt : k < zs.length
    · obtain ⟨b, o, x, hx, rfl, hb, hcell⟩ := ha.get hlt
      have hcell1 := (hbel.cell (p := ⟨b, o + k, none⟩) (by show b < _; omega)).trans hcell
      clear hcell
      have hxb := hz.get hx
      have HX := Lib.hid hx
      clear hx
      by_cases h0 : x = 0
      · subst h0
        by_cases hk1 : k + 1 = zs.length
        · have hk1b : (((k : Nat) : Int) + 1 == ((zs.length : Nat) : Int)) = true := by rw [beq_iff_eq]; omega
          have HK := Lib.hid hk1
          clear hk1
          go_wp2
          go_ret3
          exact .no (HY.out.symm.trans (txtR_more HX.out HK.out)) rfl hbel
        · have hk1b : (((k : Nat) : Int) + 1 == ((zs.length : Nat) : Int)) = false := by rw [beq_eq_false_iff_ne]; omega
          obtain ⟨b', o', y, hy, e1, _, hcell⟩ := ha.get (k := k + 1) (by omega)
          injection e1 with e1
          injection e1 with e1 e2
          subst e1 e2
          have hcell2 := (hbel.cell (p := ⟨b, o + (k + 1), none⟩) (by show b < _; omega)).trans hcell
          clear hcell
          have hyb := hz.get hy
          have hk1c : k + 1 < zs.length := by omega
          have HY1 := Lib.hid hy
          clear hy hk1
          have hconv := Rb.str (P := Try.prog) (Rd.of_own happ.own) Try.underlying27 Try.underlying5 Try.underlying9 c'
          by_cases hy1 : y = 1
          · subst hy1
            go_wp2
            go_ret3
            exact .ok (HY.out.symm.trans (txtR_end HX.out HY1.out)) rfl hbel
          · have hy1b : (y == 1) = false := by simp [hy1]
            by_cases hy2 : y = 255
            · subst hy2
              go_wp2_with (at_builtin; go_loud (refine wpList_appb _ rfl (.tmp 48) (.tmp 49) rfl w.heap.size _ _ ys rfl (happ.own.alloc _) _ _ 1 1 [0] rfl rfl (Rd.lit _ _ _) (by omega) (by have := happ.heap; simp; omega) ?_))
              intro A2 c2 w2 h2 hne2
              go_wp2
              go_roundw
              case rel =>
                have e : ys.length + 1 = (ys ++ [0]).length := by simp
                rw [e] at h2
                exact ⟨A2, c2, k + 2, ys ++ [0], by omega, by rw [← e], by go_num, (happ.alloc _).trans h2, by simp; omega, by rw [← HY.out]; exact (txtR_zero HX.out HY1.out).symm⟩
              case measure => simp [intOf]; omega
            · have hy2b : (y == 255) = false := by simp [hy2]
              have hy2c : (y != 255) = true := by simp [hy2]
              go_wp2
              go_ret3
              exact .no (HY.out.symm.trans (txtR_bad HX.out HY1.out hy1 hy2)) rfl hbel
      · have hne : (x != 0) = true := by simp [h0]
        go_wp2_with (at_builtin; go_loud (refine wpList_appb _ rfl (.tmp 18) (.tmp 23) rfl w.heap.size _ _ ys rfl (happ.own.alloc _) _ _ 1 1 [x] rfl rfl (Rd.lit _ _ _) (by omega) (by have := happ.heap; simp; omega) ?_))
        intro A2 c2 w2 h2 hne2
        go_wp2
        go_roundw
        case rel =>
          have e : ys.length + 1 = (ys ++ [x]).length := by simp
          rw [e] at h2
          exact ⟨A2, c2, k + 1, ys ++ [x], by omega, by rw [← e], by go_num, (happ.alloc _).trans h2, by simp; omega, by rw [← HY.out]; exact (txtR_x HX.out h0).symm⟩
        case measure => simp [intOf]; omega
    · go_wp2
      go_ret3
      exact .no (HY.out.symm.trans (txtR_over (by omega))) rfl hbel

set_option maxHeartbeats 1600000 in
theorem refReadOrderedText {A : Option Addr} {c n B : Nat} {zs : List Int} (w : World) (ha : Rb w B A zs) (hB : B ≤ w.heap.size) (hz : Byt zs) (hl : zs.length ≤ 1099511627776) (hn : zs.length = n) :
    Calls Try.prog 32 #[.slice A n c] w (TxtRet w (txtOf zs)) := by
  subst hn
  go_enter Try.func32, Try.ntmps32
  go_wp2
  go_loopw [5, 6] (fun v i wr => ∃ (A' : Option Addr) (c' k : Nat) (ys : List Int), k ≤ zs.length ∧ v = .slice A' ys.length c' ∧ i = .int .i64 k ∧ App w.heap.size 5 1 w (.slice none 0 0) wr (.slice A' ys.length c') ys.length (bv ys) ∧ ys.length ≤ k ∧ txtR zs k ys = txtOf zs) (fun _ i _ => zs.length - (intOf i).toNat)
  case atStart => exact ⟨none, 0, 0, [], by omega, rfl, rfl, App.refl (World.ownsRow_nil _ _ _ _), by simp, rfl⟩
  case round =>
    obtain ⟨A', c', k, ys, hk, rfl, rfl, happ, hyk, hys⟩ := hrel
    have HY := Lib.hid hys
    clear hys
    have hbel := happ.below0
    by_cases hlt : k < zs.length
    · obtain ⟨b, o, x, hx, rfl, hb, hcell⟩ := ha.get hlt
      have hcell1 := (hbel.cell (p := ⟨b, o + k, none⟩) (by show b < _; omega)).trans hcell
      clear hcell
      have hxb := hz.get hx
      have HX := Lib.hid hx
      clear hx
      by_cases h0 : x = 0
      · subst h0
        by_cases hk1 : k + 1 = zs.length
        · have hk1b : (((k : Nat) : Int) + 1 == ((zs.length : Nat) : Int)) = true := by rw [beq_iff_eq]; omega
          have HK := Lib.hid hk1
          clear hk1
          go_wp2
          go_ret3
          exact .no (HY.out.symm.trans (txtR_more HX.out HK.out)) rfl hbel
        · have hk1b : (((k : Nat) : Int) + 1 == ((zs.length : Nat) : Int)) = false := by rw [beq_eq_false_iff_ne]; omega
          obtain ⟨b', o', y, hy, e1, _, hcell⟩ := ha.get (k := k + 1) (by omega)
          injection e1 with e1
          injection e1 with e1 e2
          subst e1 e2
          have hcell2 := (hbel.cell (p := ⟨b, o + (k + 1), none⟩) (by show b < _; omega)).trans hcell
          clear hcell
          have hyb := hz.get hy
          have hk1c : k + 1 < zs.length := by omega
          have HY1 := Lib.hid hy
          clear hy hk1
          have hconv := Rb.str (P := Try.prog) (Rd.of_own happ.own) Try.underlying27 Try.underlying5 Try.underlying9 c'
          by_cases hy1 : y = 1
          · subst hy1
            go_wp2
            go_ret3
            exact .ok (HY.out.symm.trans (txtR_end HX.out HY1.out)) rfl hbel
          · have hy1b : (y == 1) = false := by simp [hy1]
            by_cases hy2 : y = 255
            · subst hy2
              go_wp2_with (at_builtin; go_loud (refine wpList_appb _ rfl (.tmp 43) (.tmp 44) rfl w.heap.size _ _ ys rfl (happ.own.alloc _) _ _ 1 1 [0] rfl rfl (Rd.lit _ _ _) (by omega) (by have := happ.heap; simp; omega) ?_))
              intro A2 c2 w2 h2 hne2
              go_wp2
              go_roundw
              case rel =>
                have e : ys.length + 1 = (ys ++ [0]).length := by simp
                rw [e] at h2
                exact ⟨A2, c2, k + 2, ys ++ [0], by omega, by rw [← e], by go_num, (happ.alloc _).trans h2, by simp; omega, by rw [← HY.out]; exact (txtR_zero HX.out HY1.out).symm⟩
              case measure => simp [intOf]; omega
            · have hy2b : (y == 255) = false := by simp [hy2]
              have hy2c : (y != 255) = true := by simp [hy2]
              go_wp2
              go_ret3
              exact .no (HY.out.symm.trans (txtR_bad HX.out HY1.out hy1 hy2)) rfl hbel
      · have hne : (x != 0) = true := by simp [h0]
        go_wp2_with (at_builtin; go_loud (refine wpList_appb _ rfl (.tmp 18) (.tmp 23) rfl w.heap.size _ _ ys rfl (happ.own.alloc _) _ _ 1 1 [x] rfl rfl (Rd.lit _ _ _) (by omega) (by have := happ.heap; simp; omega) ?_))
        intro A2 c2 w2 h2 hne2
        go_wp2
        go_roundw
        case rel =>
          have e : ys.length + 1 = (ys ++ [x]).length := by simp
          rw [e] at h2
          exact ⟨A2, c2, k + 1, ys ++ [x], by omega, by rw [← e], by go_num, (happ.alloc _).trans h2, by simp; omega, by rw [← HY.out]; exact (txtR_x HX.out h0).symm⟩
        case measure => simp [intOf]; omega
    · go_wp2
      go_ret3
      exact .no (HY.out.symm.trans (txtR_over (by omega))) rfl hbel
end Go.Proofs.Ytlamebbolioljaa
