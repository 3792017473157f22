/- block.shared, of, int. -/
import Derived.BigRegion
import Derived.Laws.ResultCell
import Derived.Laws.Tables
import Derived.Test.YtleghbdkjdpilaaBkA
namespace Go.Proofs.Ytleghbdkjdpilaa
open Go.RowKit

set_option maxHeartbeats 1600000 in
theorem blkShared {A1 A2 : Option Addr} {n1 c1 n2 c2 B : Nat} {a b : List Int} (w : World) (ha : Rb w B A1 a) (hb : Rb w B A2 b) (h1 : a.length = n1) (h2 : b.length = n2) (hn1 : n1 ≤ 9223372036854775807) :
    Calls Try.prog 37 #[.slice A1 n1 c1, .slice A2 n2 c2] w fun e w' => e = .returned (.int .i64 (lcp a b : Nat)) ∧ ∃ d, w' = w.drewN d := by
  obtain ⟨k, hk⟩ : ∃ k, lcp a b = k := ⟨_, rfl⟩
  have hle := lcp_le a b
  have hin := lcp_in a b
  have hout := lcp_out a b
  rw [hk] at hle hin hout ⊢
  rw [h1, h2] at hle hout
  have HIN := Lib.hid hin
  have HOUT := Lib.hid hout
  have HA := Lib.hid ha
  have HB := Lib.hid hb
  clear hk hin hout h1 h2 ha hb
  go_enter Try.func37, Try.ntmps37
  go_wp2_with fail
  go_loopw [5] (fun iv_ wr => ∃ j d : Nat, j ≤ k ∧ iv_ = .int .i64 j ∧ wr = w.drewN d) (fun i _ => k - (intOf i).toNat)
  case atStart => exact ⟨0, 0, by omega, rfl, rfl⟩
  case round =>
    obtain ⟨j, d, hj, rfl, rfl⟩ := hrel
    by_cases hlt : j < k
    · obtain ⟨x, hx1, hx2⟩ := HIN.out j hlt
      obtain ⟨b1, o1, e1, hb1, hc1⟩ := Rd.get HA.out (bv_get hx1)
      obtain ⟨b2, o2, e2, hb2, hc2⟩ := Rd.get HB.out (bv_get hx2)
      subst e1 e2
      have d1 : (w.drewN d).drew.cell? ⟨b1, o1 + j, none⟩ = some (.int .u8 x) := hc1
      have d2 : (w.drewN d).drew.cell? ⟨b2, o2 + j, none⟩ = some (.int .u8 x) := hc2
      have l1 : (j : Int) < (n1 : Int) := by omega
      have l2 : (j : Int) < (n2 : Int) := by omega
      clear hx1 hx2 hb1 hb2
      go_wp2_with fail
      go_region
      all_goals go_wp2_with fail
      all_goals exact ⟨⟨j + 1, d + 1, by omega, by simp, rfl⟩, by simp only [intOf]; omega⟩
    · have hjk : j = k := by omega
      subst hjk
      by_cases l1 : j < n1
      · have l1' : (j : Int) < (n1 : Int) := by omega
        by_cases l2 : j < n2
        · have l2' : (j : Int) < (n2 : Int) := by omega
          obtain ⟨x, y, hx1, hx2, hne⟩ : ∃ x y, a[j]? = some x ∧ b[j]? = some y ∧ x ≠ y := by
            rcases HOUT.out with h | h | h
            · omega
            · omega
            · exact h
          obtain ⟨b1, o1, e1, hb1, hc1⟩ := Rd.get HA.out (bv_get hx1)
          obtain ⟨b2, o2, e2, hb2, hc2⟩ := Rd.get HB.out (bv_get hx2)
          subst e1 e2
          have d1 : (w.drewN d).drew.cell? ⟨b1, o1 + j, none⟩ = some (.int .u8 x) := hc1
          have d2 : (w.drewN d).drew.cell? ⟨b2, o2 + j, none⟩ = some (.int .u8 y) := hc2
          have hne' : (x == y) = false := by simpa using hne
          clear hx1 hx2 hb1 hb2 hne
          go_wp2_with fail
          go_region
          all_goals go_wp2_with fail
          all_goals go_ret
          all_goals exact ⟨rfl, d + 1, rfl⟩
        · have l2' : decide ((j : Int) < (n2 : Int)) = false := by simp; omega
          go_wp2_with fail
          go_region
          all_goals go_wp2_with fail
          all_goals go_ret
          all_goals exact ⟨rfl, d + 1, rfl⟩
      · have l1' : decide ((j : Int) < (n1 : Int)) = false := by simp; omega
        go_wp2_with fail
        go_region
        all_goals go_wp2_with fail
        all_goals go_ret
        all_goals exact ⟨rfl, d + 1, rfl⟩
end Go.Proofs.Ytleghbdkjdpilaa
