/- The hash of layer 9. -/
import Derived.Test.YtccpjjpceokodaaKit
namespace Go.Proofs.Ytccpjjpceokodaa
open Go.RowKit

def hstep (h c : Int) : Int := IntKind.u64.wrap (bits .xor .u64 h c * 1099511628211)
def hmix1 (m x : Int) : Int := IntKind.u64.wrap (bits .xor .u64 x (x / 8589934592) * m)
def hmix (x : Int) : Int := bits .xor .u64 (hmix1 14181476777654086739 (hmix1 18397679294719823053 x)) (hmix1 14181476777654086739 (hmix1 18397679294719823053 x) / 8589934592)
def hashTo (zs : List Int) : Int := zs.foldl hstep 14695981039346656037
def hashOf (zs : List Int) : Int := hmix (hashTo zs)
theorem hashTo_snoc (zs : List Int) (c : Int) : hashTo (zs ++ [c]) = hstep (hashTo zs) c := by simp [hashTo]
theorem u64_rng (x : Int) : 0 ≤ IntKind.u64.wrap x ∧ IntKind.u64.wrap x < 18446744073709551616 := by rw [IntKind.wrap_u64]; omega
theorem hashTo_nonneg (zs : List Int) : 0 ≤ hashTo zs := by
  rcases List.eq_nil_or_concat zs with rfl | ⟨l, c, rfl⟩
  · simp [hashTo]
  · rw [List.concat_eq_append, hashTo_snoc]; exact (u64_rng _).1

set_option maxHeartbeats 400000 in
theorem bloomHash {A : Option Addr} {c B n : Nat} {zs : List Int} (w : World) (ha : Rb w B A zs) (hz : Byt zs) (hl : zs.length ≤ maxLen) (hn : zs.length = n) :
    Calls Try.prog 18 #[.slice A n c] w fun e w' => e = .returned (.int .u64 (hashOf zs)) ∧ w' = w := by
  subst hn
  unfold maxLen at hl
  go_enter Try.func18, Try.ntmps18
  go_wp2
  go_loop [3, 8] (fun x i => ∃ (k : Nat) (v : Int), k ≤ zs.length ∧ i = .int .i64 k ∧ x = .int .u64 v ∧ 0 ≤ v ∧ v = hashTo (zs.take k)) (fun _ i => zs.length - (intOf i).toNat)
  case atStart => exact ⟨0, _, by omega, rfl, rfl, by omega, by simp [hashTo]⟩
  case round =>
    obtain ⟨k, v, hk, rfl, rfl, hv0, hv⟩ := hrel
    have HV := Lib.hid hv
    clear hv
    by_cases hlt : k < zs.length
    · obtain ⟨b, o, x, hx, rfl, hb, hcell⟩ := ha.get hlt
      have hxb := hz.get hx
      have HX := Lib.hid hx
      clear hx
      go_wp2
      go_round
      case rel => exact ⟨k + 1, _, by omega, by go_num, rfl, (u64_rng _).1, by rw [take_snoc HX.out, hashTo_snoc, ← HV.out]; rfl⟩
      case measure => simp [intOf]; omega
    · obtain rfl : k = zs.length := by omega
      go_wp2
      go_ret
      have e : hashOf zs = hmix v := by rw [hashOf, HV.out, List.take_length]
      exact ⟨by rw [e]; rfl, rfl⟩

set_option maxHeartbeats 400000 in
theorem refHash {A : Option Addr} {c B n : Nat} {zs : List Int} (w : World) (ha : Rb w B A zs) (hz : Byt zs) (hl : zs.length ≤ maxLen) (hn : zs.length = n) :
    Calls Try.prog 20 #[.slice A n c] w fun e w' => e = .returned (.int .u64 (hashOf zs)) ∧ w' = w := by
  subst hn
  unfold maxLen at hl
  go_enter Try.func20, Try.ntmps20
  go_wp2
  go_loop [3, 4] (fun x i => ∃ (k : Nat) (v : Int), k ≤ zs.length ∧ i = .int .i64 k ∧ x = .int .u64 v ∧ 0 ≤ v ∧ v = hashTo (zs.take k)) (fun _ i => zs.length - (intOf i).toNat)
  case atStart => exact ⟨0, _, by omega, rfl, rfl, by omega, by simp [hashTo]⟩
  case round =>
    obtain ⟨k, v, hk, rfl, rfl, hv0, hv⟩ := hrel
    have HV := Lib.hid hv
    clear hv
    by_cases hlt : k < zs.length
    · obtain ⟨b, o, x, hx, rfl, hb, hcell⟩ := ha.get hlt
      have hxb := hz.get hx
      have HX := Lib.hid hx
      clear hx
      go_wp2
      go_round
      case rel => exact ⟨k + 1, _, by omega, by go_num, rfl, (u64_rng _).1, by rw [take_snoc HX.out, hashTo_snoc, ← HV.out]; rfl⟩
      case measure => simp [intOf]; omega
    · obtain rfl : k = zs.length := by omega
      go_wp2
      go_ret
      have e : hashOf zs = hmix v := by rw [hashOf, HV.out, List.take_length]
      exact ⟨by rw [e]; rfl, rfl⟩
end Go.Proofs.Ytccpjjpceokodaa
