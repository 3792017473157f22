/- The places of a hash: the reference, and where they are refused. -/
import Derived.Test.YtccpjjpceokodaaProbes
namespace Go.Proofs.Ytccpjjpceokodaa
open Go.RowKit
attribute [local go_sem] Oper.semAt_some

def okp (n k : Int) : Bool := decide (1 ≤ n) && decide (n ≤ 8388608) && decide (1 ≤ k) && decide (k ≤ 30)
theorem bloomProbes0 (h n k : Int) (w : World) (hbad : okp n k = false) :
    Calls Try.prog 14 #[.int .u64 h, .int .i64 n, .int .i64 k] w fun e W' => e = .returned (.tuple #[.slice none 0 0, .int .i64 2]) ∧ ∃ n, W' = w.drewN n := by
  go_enter Try.func14, Try.ntmps14
  have hb : (n < 1 ∨ 8388608 < n ∨ k < 1) ∨ 30 < k := by
    simp [okp] at hbad
    omega
  clear hbad
  go_wp2
  all_goals first
    | (exfalso; omega)
    | (go_ret2; exact ⟨rfl, 0, rfl⟩)

theorem refProbes0 (h n k : Int) (w : World) (hbad : okp n k = false) :
    Calls Try.prog 15 #[.int .u64 h, .int .i64 n, .int .i64 k] w fun e W' => e = .returned (.tuple #[.slice none 0 0, .int .i64 2]) ∧ ∃ n, W' = w.drewN n := by
  go_enter Try.func15, Try.ntmps15
  have hb : (n < 1 ∨ 8388608 < n ∨ k < 1) ∨ 30 < k := by
    simp [okp] at hbad
    omega
  clear hbad
  go_wp2
  all_goals first
    | (exfalso; omega)
    | (go_ret2; exact ⟨rfl, 0, rfl⟩)

set_option maxHeartbeats 1000000 in
theorem refProbes1 (h n : Int) (k : Nat) (w : World) (h0 : 0 ≤ h) (h1 : h < 18446744073709551616) (hn0 : 1 ≤ n) (hn1 : n ≤ 8388608) (hk0 : 1 ≤ k) (hk : k ≤ 30) :
    Calls Try.prog 15 #[.int .u64 h, .int .i64 n, .int .i64 k] w (RetNew2 3 1 w k (iv (prb h n k)) (.int .i64 0) fun _ => True) := by
  obtain ⟨s0, s1⟩ := stepOf_rng h h0 h1
  have hlo : h / 4294967296 < 4294967296 := by omega
  obtain ⟨st, hst⟩ : ∃ st, st = stepOf h := ⟨_, rfl⟩
  have hsv : bits .or .u32 (h / 4294967296) 1 = st := hst.symm
  rw [← hst] at s0 s1
  have HST := Lib.hid hst
  have H1 := Lib.hid h1
  clear hst h1
  go_enter Try.func15, Try.ntmps15
  go_wp2
  go_loopw [10, 11] (fun ov iv_ wr => ∃ (j : Nat) (A : Option Addr) (c : Nat), j ≤ k ∧ iv_ = .int .i64 j ∧ ov = .slice A j c ∧ App w.heap.size 3 1 w (.slice none 0 0) wr (.slice A j c) j (iv (prb h n j))) (fun _ i _ => k - (intOf i).toNat)
  case atStart =>
    exact ⟨0, none, 0, by omega, rfl, rfl, App.refl (World.ownsRow_nil ..)⟩
  case round =>
    obtain ⟨j, A, c, hj, rfl, rfl, happ⟩ := hrel
    by_cases hlt : j < k
    · obtain ⟨x, hvx⟩ : ∃ x, (h + (j : Int) * st) % 4294967296 % n = x := ⟨_, rfl⟩
      have hx0 : 0 ≤ x := by rw [← hvx]; exact Int.emod_nonneg _ (by omega)
      have hx1 : x < 8388608 := by have := Int.emod_lt_of_pos ((h + (j : Int) * st) % 4294967296) (show 0 < n from by omega); omega
      have hx : prb h n (j + 1) = prb h n j ++ [x] := by
        rw [prb_succ, prb1, ← hvx, lowOf, ← HST.out]
        congr 3
        generalize (j : Int) * st = q
        omega
      have HXX := Lib.hid hx
      clear hx
      go_wp2_with (at_builtin; go_loud (refine wpList_appi _ rfl (.tmp 37) (.tmp 49) rfl w.heap.size _ j (prb h n j) rfl (happ.own.alloc _) _ _ 1 1 [x] rfl rfl (Rd.lit _ _ _) (by omega) (by have := happ.heap; simp; omega) ?_))
      intro A' c' w1 h1 _
      have h2 := (happ.alloc (.cells #[.int .i64 x] 3)).trans h1
      rw [← HXX.out] at h2
      go_wp2
      go_roundw
      case rel => exact ⟨j + 1, A', c', by omega, by go_num, rfl, h2⟩
      case measure => simp [intOf]; omega
    · have he : j = k := by omega
      subst he
      go_wp2
      go_ret2
      exact ⟨A, c, rfl, happ, trivial⟩
end Go.Proofs.Ytccpjjpceokodaa
