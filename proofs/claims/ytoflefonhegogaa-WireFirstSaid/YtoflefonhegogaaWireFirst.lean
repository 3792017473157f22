/- The statement WireFirst: what stands first in some bytes, in order, is told as the document says. The walk. -/
import Derived.Test.YtoflefonhegogaaLives
import Derived.Test.YtoflefonhegogaaOpen
namespace Go.Proofs.Ytoflefonhegogaa
open Go.RowKit

set_option maxHeartbeats 4000000 in
theorem wireFirst_walk (A : Option Addr) (n c : Nat) (b : List Int) (w : World) (hp : InB w A n c b) :
    Calls Try.prog 6 #[.slice A n c] w fun e w' => e = .returned (.bool true) ∧ Below w.heap.size w w' := by
  obtain ⟨rp, lp, cp, mp, bp, np⟩ := hp
  unfold maxLen at mp
  by_cases hlong : 5000 < n
  · go_enter Try.func6, Try.ntmps6
    go_wp2_with fail
    refine (lives_true w).mono ?_
    rintro e w1 ⟨rfl, hb⟩
    go_wp2_with fail
    go_ret
    exact ⟨rfl, hb⟩
  · go_enter Try.func6, Try.ntmps6
    go_wp2_with fail
    refine (lives_true w).mono ?_
    rintro e w1 ⟨rfl, hb⟩
    replace rp := rp.belowS hb
    go_wp2_with fail
    refine (kitOwn _ rp (Nat.le_refl _) (by omega) lp).mono ?_
    rintro e w2 ⟨A2, c2, rfl, happ, hne2⟩
    have hb2 := happ.below0
    replace hb := hb.trans (hb2.mono hb.size)
    replace rp := rp.belowS hb2
    have r2 : Rb w2 w2.heap.size A2 b := Rd.of_own happ.own
    have hc2 : n ≤ c2 := by
      rcases happ.own.2 with ⟨h1, h2⟩ | ⟨_, _, _, h1, _, _, h2, _⟩
      · omega
      · injection h1 with _ _ h3; omega
    clear happ hb2
    obtain ⟨x, m, er, H1, H2⟩ : ∃ (x m er : Nat), (∀ (W : World) (A : Option Addr) (c B : Nat), Rb W B A b → n ≤ c → Calls Try.prog 25 #[.slice A n c] W fun e w' => e = .returned (.tuple #[.int .u64 x, .int .i64 m, .int .i64 er]) ∧ W = w') ∧
        (∀ (W : World) (A : Option Addr) (c B : Nat), Rb W B A b → n ≤ c → Calls Try.prog 26 #[.slice A n c] W fun e w' => e = .returned (.tuple #[.int .u64 x, .int .i64 m, .int .i64 er]) ∧ W = w') := by
      by_cases h8 : n < 8
      · exact ⟨0, 0, 12, fun W A c B _ _ => wireReadOrdered0 W h8, fun W A c B _ _ => refReadOrdered0 W h8⟩
      · exact ⟨_, 8, 0, fun W A c B h hc => wireReadOrdered1 W h bp (by simp only [maxLen]; omega) (by omega) lp hc, fun W A c B h hc => refReadOrdered1 W h bp (by simp only [maxLen]; omega) (by omega) lp⟩
    have HH1 := Lib.hid H1
    have HH2 := Lib.hid H2
    clear H1 H2
    go_wp2_with fail
    refine (HH1.out _ _ _ _ r2 hc2).mono ?_
    rintro e w3 ⟨rfl, hw⟩
    subst hw
    go_wp2_with fail
    refine (HH2.out _ _ _ _ rp cp).mono ?_
    rintro e w3 ⟨rfl, hw⟩
    subst hw
    clear HH1 HH2 r2
    go_wp2_with fail
    refine (kitOwn _ rp (Nat.le_refl _) (by omega) lp).mono ?_
    rintro e w3 ⟨A3, c3, rfl, happ, hne3⟩
    have hb3 := happ.below0
    replace hb := hb.trans (hb3.mono hb.size)
    replace rp := rp.belowS hb3
    have r3 : Rb w3 w3.heap.size A3 b := Rd.of_own happ.own
    clear happ hb3
    obtain ⟨s, k, f, H1, H2⟩ : ∃ (s : ByteArray) (k f : Nat), (∀ (W : World) (A : Option Addr) (c : Nat), Rb W W.heap.size A b → Calls Try.prog 27 #[.slice A n c] W fun e w' => e = .returned (.tuple #[.string s, .int .i64 k, .int .i64 f]) ∧ Below W.heap.size W w') ∧
        (∀ (W : World) (A : Option Addr) (c : Nat), Rb W W.heap.size A b → Calls Try.prog 28 #[.slice A n c] W fun e w' => e = .returned (.tuple #[.string s, .int .i64 k, .int .i64 f]) ∧ Below W.heap.size W w') := by
      cases hr : txtOf b with
      | inl r => exact ⟨strOfNums r.1, r.2, 0, fun W A c h => (wireReadOrderedText W h (Nat.le_refl _) bp (by omega) lp).mono fun e w' ht => by rw [hr] at ht; exact ht, fun W A c h => (refReadOrderedText W h (Nat.le_refl _) bp (by omega) lp).mono fun e w' ht => by rw [hr] at ht; exact ht⟩
      | inr r => exact ⟨ByteArray.empty, 0, r, fun W A c h => (wireReadOrderedText W h (Nat.le_refl _) bp (by omega) lp).mono fun e w' ht => by rw [hr] at ht; exact ht, fun W A c h => (refReadOrderedText W h (Nat.le_refl _) bp (by omega) lp).mono fun e w' ht => by rw [hr] at ht; exact ht⟩
    have HH1 := Lib.hid H1
    have HH2 := Lib.hid H2
    clear H1 H2
    go_wp2_with fail
    refine (HH1.out _ _ _ r3).mono ?_
    rintro e w4 ⟨rfl, hb4⟩
    replace hb := hb.trans (hb4.mono hb.size)
    replace rp := rp.belowS hb4
    go_wp2_with fail
    refine (HH2.out _ _ _ rp).mono ?_
    rintro e w5 ⟨rfl, hb5⟩
    replace hb := hb.trans (hb5.mono hb.size)
    clear HH1 HH2 r3 rp hb4 hb5
    go_wp2
    go_show
    go_ret
    exact ⟨rfl, hb⟩
end Go.Proofs.Ytoflefonhegogaa
