/- The contract of bootprintkit.Bytes. -/
import Derived.Test.YtleghbdkjdpilaaByt
namespace Go.Proofs.Ytleghbdkjdpilaa
open Go.RowKit

set_option maxHeartbeats 400000 in
theorem kitBytes {A A' : Option Addr} {c c' B B' n n' : Nat} {xs ys : List Int} (w : World) (ha : Rb w B A xs) (hb : Rb w B' A' ys) (hx : xs.length ≤ maxLen) (hy : ys.length ≤ maxLen) (hn : xs.length = n) (hn' : ys.length = n') :
    Calls Try.prog 20 #[.slice A n c, .slice A' n' c'] w fun e w' => e = .returned (.bool (eqb xs ys)) ∧ ∃ n, w' = w.drewN n := by
  subst hn hn'
  unfold maxLen at hx hy
  by_cases hl : xs.length = ys.length
  · have hlb : (((xs.length : Nat) : Int) != ((ys.length : Nat) : Int)) = false := by simp [hl]
    go_enter Try.func20, Try.ntmps20
    have HL := Lib.hid hl
    clear hl
    go_wp2
    go_loopw [5] (fun i wr => ∃ k : Nat, k ≤ xs.length ∧ i = .int .i64 k ∧ xs.take k = ys.take k ∧ ∃ n, wr = w.drewN n) (fun i _ => xs.length - (intOf i).toNat)
    case atStart => exact ⟨0, Nat.zero_le _, rfl, rfl, 0, rfl⟩
    case round =>
      obtain ⟨k, hk, rfl, ht, n, rfl⟩ := hrel
      have HT := Lib.hid ht
      clear ht
      by_cases hlt : k < xs.length
      · obtain ⟨b, o, x, hx1, rfl, hb1, hc1⟩ := ha.get hlt
        obtain ⟨b', o', y, hy1, rfl, hb2, hc2⟩ := hb.get (by rw [← HL.out]; exact hlt)
        have hlt' : k < ys.length := by rw [← HL.out]; exact hlt
        have X := Lib.hid hx1
        have Y := Lib.hid hy1
        clear hx1 hy1
        by_cases hxy : x = y
        · subst hxy
          go_wp2
          go_quiet (fail)
          go_wp2
          go_roundw
          case rel => exact ⟨k + 1, by omega, by go_num, by rw [take_snoc X.out, take_snoc Y.out, HT.out], _, rfl⟩
          case measure => simp [intOf]; omega
        · have hne : (x != y) = true := by simp [hxy]
          go_wp2
          go_quiet (fail)
          go_wp2
          go_ret
          refine ⟨?_, _, World.drewN_drewN _ _ _⟩
          have : eqb xs ys = false := by
            rw [eqb, decide_eq_false_iff_not]
            rintro rfl
            have := X.out.symm.trans Y.out
            injection this with this
            exact hxy this
          rw [this]; rfl
      · go_wp2
        go_ret
        refine ⟨?_, _, rfl⟩
        have : eqb xs ys = true := by
          rw [eqb_true]
          have h1 := HT.out
          rw [List.take_of_length_le (by omega), List.take_of_length_le (by have := HL.out; omega)] at h1
          exact h1
        rw [this]; rfl
  · have hlb : (((xs.length : Nat) : Int) != ((ys.length : Nat) : Int)) = true := by simp; omega
    have he : eqb xs ys = false := by
      rw [eqb, decide_eq_false_iff_not]
      rintro rfl
      exact hl rfl
    rw [he]
    go_enter Try.func20, Try.ntmps20
    go_wp2
    go_ret
    exact ⟨rfl, 0, rfl⟩
end Go.Proofs.Ytleghbdkjdpilaa
