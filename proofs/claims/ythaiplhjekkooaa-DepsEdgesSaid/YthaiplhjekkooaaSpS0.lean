/- Spans: bootprintkit.SmallSpan. -/
import Derived.Test.YthaiplhjekkooaaSpM0
namespace Go.Proofs.Ythaiplhjekkooaa
open Go.RowKit

def tgSmall (most : Int) (t : Tg) : Bool := decide ((t.key.size : Int) ≤ most) && decide ((t.val.size : Int) ≤ most)
def smallB (s : Sp) (most : Int) : Bool := decide ((s.service.size : Int) ≤ most) && decide ((s.name.size : Int) ≤ most) && decide ((s.tags.length : Int) ≤ most) && s.tags.all (tgSmall most)
set_option maxRecDepth 100000 in
set_option maxHeartbeats 2000000 in
theorem kitSmall {A : Option Addr} {c n B : Nat} (s : Sp) (most : Int) (w : World) (hf : RbT w B A s.tags) (hn : s.tags.length = n) (hB : B ≤ w.heap.size) (hnl : n ≤ 9223372036854775807) :
    Calls Try.prog 31 #[spV s A n c, .int .i64 most] w fun e w' => e = .returned (.bool (smallB s most)) ∧ Below w.heap.size w w' := by
  obtain ⟨q, hq⟩ : ∃ q, smallB s most = q := ⟨_, rfl⟩
  rw [hq]
  unfold smallB at hq
  rw [hn] at hq
  have HQ := Lib.hid hq
  have HN := Lib.hid hn
  have hb0 : Below w.heap.size w (w.alloc (.cells (spC s A n c) 43)) := (Below.refl _ w).alloc (Nat.le_refl _) _
  have hf1 := Rd.alloc hf hB (.cells (spC s A n c) 43)
  have bk := Bk.new w 43 (spC s A n c)
  clear hq hn
  by_cases h1 : most < (s.service.size : Int)
  · go_enter Try.func31, Try.ntmps31
    go_wp2
    go_ret
    have : q = false := by rw [← HQ.out, decide_eq_false (show ¬ _ by omega)]; rfl
    exact ⟨by rw [this]; rfl, hb0⟩
  have d1 : decide (most < (s.service.size : Int)) = false := by simp; omega
  by_cases h2 : most < (s.name.size : Int)
  · go_enter Try.func31, Try.ntmps31
    go_wp2
    go_ret
    have : q = false := by rw [← HQ.out, decide_eq_false (p := (s.name.size : Int) ≤ most) (by omega)]; simp
    exact ⟨by rw [this]; rfl, hb0⟩
  have d2 : decide (most < (s.name.size : Int)) = false := by simp; omega
  by_cases h3 : most < (n : Int)
  · go_enter Try.func31, Try.ntmps31
    go_wp2
    go_ret
    have : q = false := by rw [← HQ.out, decide_eq_false (p := (n : Int) ≤ most) (by omega)]; simp
    exact ⟨by rw [this]; rfl, hb0⟩
  have d3 : decide (most < (n : Int)) = false := by simp; omega
  have hq2 : s.tags.all (tgSmall most) = q := by
    rw [← HQ.out, decide_eq_true (p := (s.service.size : Int) ≤ most) (by omega), decide_eq_true (p := (s.name.size : Int) ≤ most) (by omega), decide_eq_true (p := (n : Int) ≤ most) (by omega)]
    simp
  have HQ2 := Lib.hid hq2
  clear hq2
  obtain ⟨w1, hw1⟩ : ∃ w1, w.alloc (.cells (spC s A n c) 43) = w1 := ⟨_, rfl⟩
  rw [hw1] at hb0 hf1 bk
  obtain ⟨g, hg⟩ : ∃ g, w.heap.size = g := ⟨_, rfl⟩
  rw [hg] at bk
  have HW := Lib.hid hw1
  have HG := Lib.hid hg
  have k10 : w1.cell? ⟨g, 10, none⟩ = some (.slice A n c) := bk.cell 10
  have k4 : w1.cell? ⟨g, 4, none⟩ = some (.string s.service) := bk.cell 4
  have k5 : w1.cell? ⟨g, 5, none⟩ = some (.string s.name) := bk.cell 5
  clear hw1 bk hg
  go_enter Try.func31, Try.ntmps31
  go_wp2_with fail
  rw [HW.out, HG.out]
  go_loopw [5] (fun iv_ wr => ∃ j : Nat, j ≤ n ∧ iv_ = .int .i64 j ∧ (s.tags.take j).all (tgSmall most) = true ∧ ∃ d, wr = w1.drewN d) (fun i _ => n - (intOf i).toNat)
  case atStart => exact ⟨0, by omega, rfl, rfl, 0, rfl⟩
  case round =>
    obtain ⟨j, hj, rfl, hall, d, rfl⟩ := hrel
    have HA := Lib.hid hall
    clear hall
    have k10' : (w1.drewN d).cell? ⟨g, 10, none⟩ = some (.slice A n c) := k10
    by_cases hlt : j < n
    · have hlt' : (j : Int) < (n : Int) := by omega
      obtain ⟨x, hx⟩ : ∃ x, s.tags[j]? = some x := ⟨_, List.getElem?_eq_getElem (by rw [HN.out]; exact hlt)⟩
      obtain ⟨b, o, rfl, hbb, c1, c2⟩ := RbT.get hf1 hx
      have c1' : (w1.drewN d).cell? ⟨b, o + j * 2, none⟩ = some (.string x.key) := c1
      have c2' : (w1.drewN d).cell? ⟨b, o + j * 2 + 1, none⟩ = some (.string x.val) := c2
      have HX := Lib.hid hx
      clear hx c1 c2
      have hno : tgSmall most x = false → q = false := fun h => by
        rw [← HQ2.out, List.all_eq_false]
        exact ⟨x, List.mem_of_getElem? HX.out, by rw [h]; simp⟩
      have HNO := Lib.hid hno
      clear hno
      by_cases g1 : most < (x.key.size : Int)
      · go_wp2
        all_goals go_ret
        all_goals exact ⟨by rw [HNO.out (by rw [tgSmall, decide_eq_false (p := (x.key.size : Int) ≤ most) (by omega)]; rfl)]; rfl, below_drewN hb0 _⟩
      have e1 : decide (most < (x.key.size : Int)) = false := by simp; omega
      by_cases g2 : most < (x.val.size : Int)
      · go_wp2
        all_goals go_ret
        all_goals exact ⟨by rw [HNO.out (by rw [tgSmall, decide_eq_false (p := (x.val.size : Int) ≤ most) (by omega)]; simp)]; rfl, below_drewN hb0 _⟩
      have e2 : decide (most < (x.val.size : Int)) = false := by simp; omega
      go_wp2
      go_roundw
      case rel => exact ⟨j + 1, by omega, by go_num, by rw [take_snoc HX.out, List.all_append, HA.out]; simp [tgSmall]; omega, _, rfl⟩
      case measure => simp [intOf]; omega
    · have hlt' : decide ((j : Int) < (n : Int)) = false := by simp; omega
      go_wp2
      go_ret
      have : q = true := by
        rw [← HQ2.out]
        have h1 := HA.out
        rwa [List.take_of_length_le (by rw [HN.out]; omega)] at h1
      exact ⟨by rw [this]; rfl, below_drewN hb0 _⟩
end Go.Proofs.Ythaiplhjekkooaa
