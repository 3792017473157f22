/- Spans: cmp.Compare, cmp.Or, slices.CompareFunc. -/
import Derived.Deep.Cut
import Derived.Deep.RegionHeld3
import Derived.Deep.QuietTactic
import Derived.Test.YthaiplhjekkooaaStw
import Derived.Test.YthaiplhjekkooaaSpPl
namespace Go.Proofs.Ythaiplhjekkooaa
open Go.RowKit

theorem cmpU (x y : Int) (w : World) : Calls Try.prog 58 #[.int .u64 x, .int .u64 y] w fun e w' => e = .returned (.int .i64 (cmpI x y)) ∧ w' = w := by
  by_cases h1 : x < y
  · rw [show cmpI x y = -1 from by rw [cmpI, if_pos h1]]
    go_enter Try.func58, Try.ntmps58
    go_wp2
    go_ret
    exact ⟨rfl, rfl⟩
  · by_cases h2 : y < x
    · rw [show cmpI x y = 1 from by rw [cmpI, if_neg h1, if_pos h2]]
      go_enter Try.func58, Try.ntmps58
      go_wp2
      go_ret
      exact ⟨rfl, rfl⟩
    · rw [show cmpI x y = 0 from by rw [cmpI, if_neg h1, if_neg h2]]
      go_enter Try.func58, Try.ntmps58
      go_wp2
      go_ret
      exact ⟨rfl, rfl⟩
theorem cmpStr (s t : ByteArray) (w : World) : Calls Try.prog 59 #[.string s, .string t] w fun e w' => e = .returned (.int .i64 (cmpS s t)) ∧ w' = w := by
  have n1 : (s.toList == s.toList) = true := by simp
  have n2 : (t.toList == t.toList) = true := by simp
  cases h1 : strLt s t with
  | true =>
    rw [show cmpS s t = -1 from by rw [cmpS, if_pos h1]]
    unfold strLt at h1
    go_enter Try.func59, Try.ntmps59
    go_wp2
    go_ret
    exact ⟨rfl, rfl⟩
  | false =>
    by_cases h2 : s = t
    · subst h2
      rw [show cmpS s s = 0 from by rw [cmpS, h1]; simp]
      unfold strLt at h1
      go_enter Try.func59, Try.ntmps59
      go_wp2
      go_ret
      exact ⟨rfl, rfl⟩
    · rw [show cmpS s t = 1 from by rw [cmpS, h1, if_neg h2]; simp]
      have h3 : (s.toList == t.toList) = false := by rw [strEq_of']; simpa using h2
      unfold strLt at h1
      go_enter Try.func59, Try.ntmps59
      go_wp2
      go_ret
      exact ⟨rfl, rfl⟩
set_option maxHeartbeats 400000 in
theorem cmpOr {l : List Int} {n g : Nat} (w : World) (hn : l.length = n) (hnl : n ≤ 1000) (hb : Bk w g 3 (l.map (Value.int .i64)).toArray) :
    Calls Try.prog 57 #[.slice (some ⟨g, 0, none⟩) n n] w fun e w' => e = .returned (.int .i64 (orL l)) ∧ w' = w := by
  have HN := Lib.hid hn
  have hget : ∀ j x, l[j]? = some x → w.cell? ⟨g, j, none⟩ = some (.int .i64 x) := fun j x h => by
    rw [hb.cell j, List.getElem?_toArray, List.getElem?_map, h]
    rfl
  have HG := Lib.hid hget
  obtain ⟨q, hq⟩ : ∃ q, orL l = q := ⟨_, rfl⟩
  rw [hq]
  have HQ := Lib.hid hq
  clear hn hget hq
  go_enter Try.func57, Try.ntmps57
  go_wp2
  go_loop [8] (fun i => ∃ j : Nat, j ≤ n ∧ i = .int .i64 j ∧ orL (l.drop j) = q) (fun i => n - (intOf i).toNat)
  case atStart => exact ⟨0, by omega, rfl, HQ.out⟩
  case round =>
    obtain ⟨j, hj, rfl, hd⟩ := hrel
    have HD := Lib.hid hd
    clear hd
    by_cases hlt : j < n
    · have hlt' : (j : Int) < (n : Int) := by omega
      obtain ⟨x, hx⟩ : ∃ x, l[j]? = some x := ⟨_, List.getElem?_eq_getElem (by rw [HN.out]; exact hlt)⟩
      have hc := HG.out j x hx
      have hd := orL_drop hx
      rw [HD.out] at hd
      have HX := Lib.hid hd
      clear hx hd
      by_cases h0 : x = 0
      · subst h0
        have hd := HX.out
        rw [if_neg (by simp)] at hd
        have HX2 := Lib.hid hd
        clear hd
        go_wp2
        go_round
        case rel => exact ⟨j + 1, by omega, by go_num, HX2.out.symm⟩
        case measure => simp [intOf]; omega
      · have hxb : (x != 0) = true := by simp [h0]
        have hd := HX.out
        rw [if_pos h0] at hd
        have HX2 := Lib.hid hd
        clear hd
        go_wp2
        go_ret
        exact ⟨by rw [HX2.out]; rfl, rfl⟩
    · have hlt' : decide ((j : Int) < (n : Int)) = false := by simp; omega
      go_wp2
      go_ret
      have : q = 0 := by
        rw [← HD.out, List.drop_eq_nil_of_le (by rw [HN.out]; omega)]
        rfl
      exact ⟨by rw [this]; rfl, rfl⟩
end Go.Proofs.Ythaiplhjekkooaa
