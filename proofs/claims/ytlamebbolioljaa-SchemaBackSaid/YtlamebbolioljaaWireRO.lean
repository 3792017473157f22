/- (wire.ReadOrdered alone) Contracts of wire's readers. -/
import Derived.Test.YtlamebbolioljaaWireOrd
import Derived.Test.YtlamebbolioljaaWireM2
namespace Go.Proofs.Ytlamebbolioljaa
open Go.RowKit

/-- A byte behind a number that was moved left. -/
theorem or_byte (v : Nat) (x : Int) (hv : v < 72057594037927936) (h0 : 0 ≤ x) (h1 : x ≤ 255) : bits .or .u64 ((v : Int) * 256) x = ((v * 256 + x.toNat : Nat) : Int) := by
  rw [u64_or _ _ (by omega) (by omega) h0 (by omega)]
  have e : ((v : Int) * 256).toNat = 2 ^ 8 * v := by omega
  rw [e, ← Nat.two_pow_add_eq_or_of_lt (show x.toNat < 2 ^ 8 from by omega) v]
  omega

/-- A slice too short. -/
theorem wireReadOrdered0 {A : Option Addr} {c n : Nat} (w : World) (h : n < 8) :
    Calls Try.prog 30 #[.slice A n c] w fun e w' => e = .returned (.tuple #[.int .u64 0, .int .i64 0, .int .i64 12]) ∧ w = w' := by
  go_enter Try.func30, Try.ntmps30
  go_wp2
  go_ret3
  exact ⟨rfl, rfl⟩
set_option maxHeartbeats 400000 in
theorem wireReadOrdered1 {A : Option Addr} {c n B : Nat} {zs : List Int} (w : World) (ha : Rb w B A zs) (hz : Byt zs) (hl : zs.length ≤ maxLen) (h : 8 ≤ n) (hn : zs.length = n) (hc : n ≤ c) :
    Calls Try.prog 30 #[.slice A n c] w fun e w' => e = .returned (.tuple #[.int .u64 (ordVal (zs.take 8)), .int .i64 8, .int .i64 0]) ∧ w = w' := by
  subst hn
  unfold maxLen at hl
  obtain ⟨b, o, x0, hx0, rfl, hb0, hcell0⟩ := ha.get (k := 0) (by omega)
  clear hx0 hcell0
  go_enter Try.func30, Try.ntmps30
  go_wp2
  go_loop [2, 13] (fun x i => ∃ (k : Nat) (v : Nat), k ≤ 8 ∧ i = .int .i64 k ∧ x = .int .u64 (v : Nat) ∧ v = ordVal (zs.take k)) (fun _ i => 8 - (intOf i).toNat)
  case atStart => exact ⟨0, 0, by omega, rfl, rfl, by simp [ordVal]⟩
  case round =>
    obtain ⟨k, v, hk, rfl, rfl, hv⟩ := hrel
    have hvb : v < 256 ^ k := by rw [hv]; exact ordVal_lt k _ (hz.take k) (by simp; omega)
    have HV := Lib.hid hv
    clear hv
    by_cases hlt : k < 8
    · obtain ⟨b', o', x, hx, e1, hb, hcell⟩ := ha.get (k := k) (by omega)
      injection e1 with e1
      injection e1 with e1 e2
      subst e1 e2
      have hxb := hz.get hx
      have hvb' : v < 72057594037927936 := Nat.lt_of_lt_of_le hvb (show 256 ^ k ≤ 256 ^ 7 from Nat.pow_le_pow_right (by omega) (by omega))
      have HX := Lib.hid hx
      clear hx hvb
      go_wp2
      go_round
      case rel => exact ⟨k + 1, v * 256 + x.toNat, by omega, by go_num, congrArg (Value.int IntKind.u64) (or_byte v x hvb' hxb.1 hxb.2), by rw [take_snoc HX.out, ordVal_snoc, ← HV.out]⟩
      case measure => simp [intOf]; omega
    · obtain rfl : k = 8 := by omega
      go_wp2
      go_ret3
      exact ⟨by rw [HV.out]; rfl, rfl⟩

end Go.Proofs.Ytlamebbolioljaa
