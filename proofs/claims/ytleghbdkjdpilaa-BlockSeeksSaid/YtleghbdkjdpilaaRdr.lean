/- Contracts of wire's reader. -/
import Derived.Test.YtleghbdkjdpilaaKit
import Derived.Test.YtleghbdkjdpilaaWireM2
import Derived.WalkMore
namespace Go.Proofs.Ytleghbdkjdpilaa
open Go.RowKit

theorem and127 (c : Int) (h0 : 0 ≤ c) (h1 : c ≤ 255) : bits .and .u8 c 127 = c % 128 := by
  have key : ∀ n : Nat, n < 256 → bits .and .u8 (n : Int) 127 = ((n % 128 : Nat) : Int) := by decide +kernel
  have := key c.toNat (by omega)
  rw [show ((c.toNat : Nat) : Int) = c from by omega] at this
  rw [this]
  omega

theorem or_high (x k d : Nat) (hx : x < 128 ^ k) (hx64 : x < 18446744073709551616) (hd : d * 128 ^ k < 18446744073709551616) : bits .or .u64 (x : Int) ((d * 128 ^ k : Nat) : Int) = ((x + d * 128 ^ k : Nat) : Int) := by
  have hp : (128 : Nat) ^ k = 2 ^ (7 * k) := by rw [Nat.pow_mul]
  rw [u64_or_nat _ _ hx64 hd, Nat.or_comm, Nat.mul_comm d, hp, ← Nat.two_pow_add_eq_or_of_lt (by rw [← hp]; exact hx) d, Nat.add_comm]
theorem or_short (x k : Nat) (c : Int) (h0 : 0 ≤ c) (hx : x < 128 ^ k) (hk : k ≤ 8) : bits .or .u64 (x : Int) (IntKind.u64.wrap (c % 128 * 2 ^ (7 * k))) = ((x + (c % 128).toNat * 128 ^ k : Nat) : Int) := by
  have hp : (128 : Nat) ^ k = 2 ^ (7 * k) := by rw [Nat.pow_mul]
  have h8 : 128 ^ k ≤ 128 ^ 8 := Nat.pow_le_pow_right (by omega) hk
  have e8 : (128 : Nat) ^ 8 = 72057594037927936 := by decide
  rw [e8] at h8
  have hm : (c % 128).toNat * 128 ^ k ≤ 127 * 128 ^ k := Nat.mul_le_mul_right _ (by omega)
  have e : c % 128 * 2 ^ (7 * k) = (((c % 128).toNat * 128 ^ k : Nat) : Int) := by
    rw [hp, Int.natCast_mul, Int.natCast_pow, Int.toNat_of_nonneg (by omega)]
    rfl
  rw [e, IntWalk.u64_in _ ⟨by omega, by omega⟩, or_high x k _ hx (by omega) (by omega)]

set_option maxHeartbeats 1600000 in
theorem wireShort {A : Option Addr} {c n B : Nat} {zs : List Int} (w : World) (ha : Rb w B A zs) (hz : Byt zs) (hl : zs.length ≤ maxLen) (hn : zs.length = n) :
    Calls Try.prog 52 #[.slice A n c] w fun e w' => e = .returned (.tuple #[.int .u64 (shortOf zs).1, .int .i64 (shortOf zs).2.1, .int .i64 (shortOf zs).2.2]) ∧ w' = w := by
  subst hn
  unfold maxLen at hl
  go_enter Try.func52, Try.ntmps52
  go_wp2
  go_step3
  go_wp2
  go_step3
  go_wp2
  go_loop [2, 3] (fun xv nv => ∃ (k x : Nat), k ≤ 9 ∧ k ≤ zs.length ∧ xv = .int .u64 x ∧ nv = .int .i64 k ∧ x < 128 ^ k ∧ shortG zs k x (10 - k) = shortOf zs) (fun _ nv => 10 - (intOf nv).toNat)
  case atStart => exact ⟨0, 0, by omega, by omega, rfl, rfl, by omega, rfl⟩
  case round =>
    obtain ⟨k, x, hk, hkz, rfl, rfl, hx, hs⟩ := hrel
    have HS := Lib.hid hs
    have HX := Lib.hid hx
    clear hs hx
    by_cases hlt : k < zs.length
    · obtain ⟨b, o, c, hc, rfl, hb, hcell⟩ := ha.get hlt
      have hcb := hz.get hc
      have HC := Lib.hid hc
      clear hc
      have hkl : (((k : Nat) : Int) == ((zs.length : Nat) : Int)) = false := by rw [beq_eq_false_iff_ne]; omega
      have hstep := shortG_step (x := x) (f := 9 - k) HC.out
      rw [show 9 - k + 1 = 10 - k from by omega, HS.out] at hstep
      have hand := and127 c hcb.1 hcb.2
      by_cases h1 : k = 9 ∧ 1 < c
      · have hres : shortOf zs = (0, 0, 4) := by rw [hstep, if_pos h1]
        obtain ⟨rfl, hc1⟩ := h1
        have HR := Lib.hid hres
        clear hres hstep
        go_wp2
        go_ret3
        exact ⟨by rw [HR.out]; rfl, rfl⟩
      · rw [if_neg h1] at hstep
        by_cases hk9 : k = 9
        · subst hk9
          by_cases h0 : c = 0
          · subst h0
            rw [if_pos ⟨rfl, by omega⟩] at hstep
            have HR := Lib.hid hstep
            clear hstep h1
            go_wp2
            go_ret3
            exact ⟨by rw [HR.out]; rfl, rfl⟩
          · obtain rfl : c = 1 := by omega
            rw [if_neg (by omega), if_pos (by omega)] at hstep
            have HR := Lib.hid hstep
            clear hstep h1 hand
            have hand1 : bits .and .u8 1 127 = 1 := by decide +kernel
            obtain ⟨y, hy⟩ : ∃ y : Int, y = ((x + 1 * 128 ^ 9 : Nat) : Int) := ⟨_, rfl⟩
            have hor : bits .or .u64 (x : Int) 9223372036854775808 = y := by
              have h9 : (128 : Nat) ^ 9 = 9223372036854775808 := by decide
              have hx9 := HX.out
              rw [hy, ← or_high x 9 1 hx9 (by rw [h9] at hx9; omega) (by decide), h9]
              rfl
            have HYY := Lib.hid hy
            clear hy
            go_wp2
            go_ret3
            exact ⟨by rw [HR.out, HYY.out]; rfl, rfl⟩
        · have hk8 : k ≤ 8 := by omega
          have hk9b : ((k : Int) == 9) = false := by rw [beq_eq_false_iff_ne]; omega
          by_cases h0 : c = 0
          · subst h0
            by_cases hk0 : 0 < k
            · rw [if_pos ⟨rfl, hk0⟩] at hstep
              have HR := Lib.hid hstep
              clear hstep h1
              go_wp2
              go_ret3
              exact ⟨by rw [HR.out]; rfl, rfl⟩
            · obtain rfl : k = 0 := by omega
              rw [if_neg (by omega), if_pos (by omega)] at hstep
              have HR := Lib.hid hstep
              clear hstep h1
              have hcell0 : w.cell? ⟨b, o, none⟩ = some (.int .u8 0) := hcell
              obtain rfl : x = 0 := by have := HX.out; omega
              clear hcell hand
              have hand1 : bits .and .u8 0 127 = 0 := by decide +kernel
              have hor1 : bits .or .u64 0 0 = 0 := by decide +kernel
              go_wp2
              go_ret3
              exact ⟨by rw [HR.out]; rfl, rfl⟩
          · have h0b : (c == 0) = false := by simp [h0]
            obtain ⟨y, hy⟩ : ∃ y : Int, y = ((x + (c % 128).toNat * 128 ^ k : Nat) : Int) := ⟨_, rfl⟩
            have hor : bits .or .u64 (x : Int) (IntKind.u64.wrap (c % 128 * 2 ^ (7 * k))) = y := by rw [hy]; exact or_short x k c hcb.1 HX.out hk8
            have HYY := Lib.hid hy
            clear hy
            rw [if_neg (by omega)] at hstep
            by_cases h128 : c < 128
            · rw [if_pos h128] at hstep
              have HR := Lib.hid hstep
              clear hstep h1
              go_wp2
              go_ret3
              exact ⟨by rw [HR.out, HYY.out, show c % 128 = c from by omega]; rfl, rfl⟩
            · rw [if_neg h128] at hstep
              have HR := Lib.hid hstep
              clear hstep h1
              obtain ⟨m, rfl⟩ : ∃ m : Nat, y = m := ⟨_, HYY.out⟩
              go_wp2
              go_round
              case rel =>
                have hm := HYY.out
                have hxm : m = x + (c.toNat - 128) * 128 ^ k := by
                  have : (c % 128).toNat = c.toNat - 128 := by omega
                  rw [this] at hm
                  omega
                refine ⟨k + 1, m, by omega, by omega, rfl, by go_num, ?_, ?_⟩
                · rw [hxm, Nat.pow_succ]
                  have hmul : (c.toNat - 128) * 128 ^ k ≤ 127 * 128 ^ k := Nat.mul_le_mul_right _ (by omega)
                  have := HX.out
                  omega
                · rw [HR.out, hxm, show 10 - (k + 1) = 9 - k from by omega]
              case measure => simp [intOf]; omega
    · have hkl : (((k : Nat) : Int) == ((zs.length : Nat) : Int)) = true := by rw [beq_iff_eq]; omega
      have hres : shortOf zs = (0, 0, 12) := by rw [← HS.out]; exact shortG_none (by omega)
      have HR := Lib.hid hres
      clear hres
      go_wp2
      go_ret3
      exact ⟨by rw [HR.out]; rfl, rfl⟩
end Go.Proofs.Ytleghbdkjdpilaa
