/- block.of, int: a place's four bytes. -/
import Derived.BigRegion
import Derived.Laws.ResultCell
import Derived.Laws.Tables
import Derived.Deep.Cut
import Derived.Test.YtleghbdkjdpilaaBkA
namespace Go.Proofs.Ytleghbdkjdpilaa
open Go.RowKit

theorem i64_or_nat (a b : Nat) (ha : a < 4611686018427387904) (hb : b < 4611686018427387904) : bits .or .i64 (a : Int) (b : Int) = ((a ||| b : Nat) : Int) := by
  have hx : a ||| b < 2 ^ 62 := Nat.or_lt_two_pow (by omega) (by omega)
  have h1 : (BitVec.ofInt 64 (a : Int)).toNat = a := by
    rw [BitVec.ofInt_natCast, BitVec.toNat_ofNat]; exact Nat.mod_eq_of_lt (by omega)
  have h2 : (BitVec.ofInt 64 (b : Int)).toNat = b := by
    rw [BitVec.ofInt_natCast, BitVec.toNat_ofNat]; exact Nat.mod_eq_of_lt (by omega)
  show IntKind.i64.wrap ((BitVec.ofInt 64 (a : Int) ||| BitVec.ofInt 64 (b : Int)).toNat : Int) = _
  rw [BitVec.toNat_or, h1, h2, IntWalk.i64_in _ ⟨by omega, by omega⟩]
theorem i64_or_high (x k d : Nat) (hx : x < 2 ^ k) (hx62 : x < 4611686018427387904) (hd : d * 2 ^ k < 4611686018427387904) : bits .or .i64 (x : Int) ((d * 2 ^ k : Nat) : Int) = ((x + d * 2 ^ k : Nat) : Int) := by
  rw [i64_or_nat _ _ hx62 hd, Nat.or_comm, Nat.mul_comm d, ← Nat.two_pow_add_eq_or_of_lt hx d, Nat.add_comm]
theorem word_or (x0 x1 x2 x3 : Int) (h0 : 0 ≤ x0 ∧ x0 ≤ 255) (h1 : 0 ≤ x1 ∧ x1 ≤ 255) (h2 : 0 ≤ x2 ∧ x2 ≤ 255) (h3 : 0 ≤ x3 ∧ x3 ≤ 255) :
    bits .or .i64 (bits .or .i64 (bits .or .i64 x0 (x1 * 256)) (x2 * 65536)) (x3 * 16777216) = x0 + 256 * x1 + 65536 * x2 + 16777216 * x3 := by
  obtain ⟨a, rfl⟩ := Int.eq_ofNat_of_zero_le h0.1
  obtain ⟨b, rfl⟩ := Int.eq_ofNat_of_zero_le h1.1
  obtain ⟨c, rfl⟩ := Int.eq_ofNat_of_zero_le h2.1
  obtain ⟨d, rfl⟩ := Int.eq_ofNat_of_zero_le h3.1
  have e1 := i64_or_high a 8 b (by omega) (by omega) (by omega)
  have e2 := i64_or_high (a + b * 2 ^ 8) 16 c (by omega) (by omega) (by omega)
  have e3 := i64_or_high (a + b * 2 ^ 8 + c * 2 ^ 16) 24 d (by omega) (by omega) (by omega)
  rw [show (b : Int) * 256 = ((b * 2 ^ 8 : Nat) : Int) from by omega, e1, show (c : Int) * 65536 = ((c * 2 ^ 16 : Nat) : Int) from by omega, e2, show (d : Int) * 16777216 = ((d * 2 ^ 24 : Nat) : Int) from by omega, e3]
  omega
theorem w4_length (x : Nat) : (w4 x).length = 4 := rfl
abbrev w4C (x : Nat) : Array Value := #[.int .u8 ((x % 256 : Nat) : Int), .int .u8 ((x / 256 % 256 : Nat) : Int), .int .u8 ((x / 65536 % 256 : Nat) : Int), .int .u8 ((x / 16777216 % 256 : Nat) : Int)]
set_option maxRecDepth 100000 in
set_option maxHeartbeats 1600000 in
theorem blkOf (x : Nat) (w : World) (hx : x < 9223372036854775808) :
    Calls Try.prog 39 #[.int .i64 x] w fun e w' => e = .returned (.agg (w4C x)) ∧ Below w.heap.size w w' := by
  go_enter Try.func39, Try.ntmps39
  go_upto_region 1 with fail
  go_wp2_with fail
  refine bodyPost_ret (results_cell_row rfl _ _ w.heap.size 62 #[.int .u8 ((x : Int) % 256), .int .u8 ((x : Int) / 256 % 256), .int .u8 ((x : Int) / 65536 % 256), .int .u8 ((x : Int) / 16777216 % 256)] (0, 0) _ rfl (Bk.new w _ _) Try.underlying62 rfl (by rfl)) rfl ?_
  exact ⟨rfl, (Below.refl _ w).alloc (Nat.le_refl _) _⟩
set_option maxRecDepth 100000 in
set_option maxHeartbeats 1600000 in
theorem blkInt (x0 x1 x2 x3 : Int) (w : World) (h0 : 0 ≤ x0 ∧ x0 ≤ 255) (h1 : 0 ≤ x1 ∧ x1 ≤ 255) (h2 : 0 ≤ x2 ∧ x2 ≤ 255) (h3 : 0 ≤ x3 ∧ x3 ≤ 255) :
    Calls Try.prog 43 #[.agg #[.int .u8 x0, .int .u8 x1, .int .u8 x2, .int .u8 x3]] w fun e w' => e = .returned (.int .i64 (x0 + 256 * x1 + 65536 * x2 + 16777216 * x3)) ∧ Below w.heap.size w w' := by
  go_enter Try.func43, Try.ntmps43
  go_wp2_with fail
  rw [word_or x0 x1 x2 x3 h0 h1 h2 h3]
  go_ret
  exact ⟨rfl, (Below.refl _ w).alloc (Nat.le_refl _) _⟩
end Go.Proofs.Ytleghbdkjdpilaa
