/- Keys: the law's own words, and the examples that each statement of layer 23 asks first. -/
import Derived.Test.YtlamebbolioljaaScJ
import Derived.Test.YtlamebbolioljaaQb
namespace Go.Proofs.Ytlamebbolioljaa
open Go.RowKit
theorem loadKy_shut5 (a : Addr) : loadVar 26 a = loadK 26 a := rfl
attribute [local go_sem ↓] loadKy_shut5

theorem scUnpack {A0 : Option Addr} {c0 B n : Nat} {zs : List Int} (w : World) (ha : Rb w B A0 zs) (hB : B ≤ w.heap.size) (hz : Byt zs) (hl : n ≤ 1000000) (hn : zs.length = n) (hc : n ≤ c0) :
    Calls Try.prog 12 #[.slice A0 n c0] w (UnPost w (unpOf zs)) := by
  cases zs with
  | nil => subst hn; exact scUnpack0 w
  | cons c rest => exact scUnpack1 w ha hB hz hl hn hc
set_option maxRecDepth 100000 in
theorem eqlKy (k : Ky) (W : World) : (binOp .eql 26 (kyV k) (kyV k)).run Try.prog W = .ok (.bool true) W := by
  go_simp
def smallK (k : Ky) : Bool := decide (k.service.size ≤ 2000) && decide (k.name.size ≤ 2000) && decide (k.value.size ≤ 2000)
set_option maxRecDepth 100000 in
theorem lawSmallK (k : Ky) (w : World) : Calls Try.prog 9 #[kyV k] w fun e w' => e = .returned (.bool (smallK k)) ∧ Below w.heap.size w w' := by
  have hcs : (k.service.size ≤ 2000 ∧ k.name.size ≤ 2000 ∧ k.value.size ≤ 2000 ∧ smallK k = true) ∨ (k.service.size ≤ 2000 ∧ k.name.size ≤ 2000 ∧ 2000 < k.value.size ∧ smallK k = false) ∨ (k.service.size ≤ 2000 ∧ 2000 < k.name.size ∧ smallK k = false) ∨ (2000 < k.service.size ∧ smallK k = false) := by
    unfold smallK
    by_cases a1 : k.service.size ≤ 2000
    · by_cases a2 : k.name.size ≤ 2000
      · by_cases a3 : k.value.size ≤ 2000
        · exact .inl ⟨a1, a2, a3, by simp [a1, a2, a3]⟩
        · exact .inr (.inl ⟨a1, a2, by omega, by simp [a3]⟩)
      · exact .inr (.inr (.inl ⟨a1, by omega, by simp [a2]⟩))
    · exact .inr (.inr (.inr ⟨by omega, by simp [a1]⟩))
  rcases hcs with ⟨a1, a2, a3, a0⟩ | ⟨a1, a2, a3, a0⟩ | ⟨a1, a2, a0⟩ | ⟨a1, a0⟩
  all_goals
    rw [a0]
    clear a0
    first
      | (have d1 : decide ((k.service.size : Int) ≤ 2000) = true := by simp; omega)
      | (have d1 : decide ((k.service.size : Int) ≤ 2000) = false := by simp; omega)
    first
      | (have d2 : decide ((k.name.size : Int) ≤ 2000) = true := by simp; omega)
      | (have d2 : decide ((k.name.size : Int) ≤ 2000) = false := by simp; omega)
      | skip
    first
      | (have d3 : decide ((k.value.size : Int) ≤ 2000) = true := by simp; omega)
      | (have d3 : decide ((k.value.size : Int) ≤ 2000) = false := by simp; omega)
      | skip
    go_enter Try.func9, Try.ntmps9
    go_wp2
    go_ret
    exact ⟨rfl, (Below.refl _ w).alloc (Nat.le_refl _) _⟩

def nameK : Ky := ⟨110, 0, 0, 0, ⟨#[97]⟩, ⟨#[98]⟩, ⟨#[]⟩, 0, 0⟩
theorem nameK_pack : packOf nameK = ([110, 97, 0, 1, 98, 0, 1], 0) := by decide +kernel
theorem nameK_unp : unpOf [110, 97, 0, 1, 98, 0, 1] = (nameK, 0) := by decide +kernel
theorem badK_unp : unpOf [120] = (zeroKy, 4) := by decide +kernel
set_option maxRecDepth 100000 in
set_option maxHeartbeats 4000000 in
theorem scLives (w : World) : Calls Try.prog 8 #[] w fun e w' => e = .returned (.bool true) ∧ Below w.heap.size w w' := by
  have bk := Bk.new w 26 (kyC nameK)
  have hb0 : Below w.heap.size w (w.alloc (.cells (kyC nameK) 26)) := (Below.refl _ w).alloc (Nat.le_refl _) _
  obtain ⟨w1, hw1⟩ : ∃ w1, w.alloc (.cells #[.int .i64 110, .int .u64 0, .int .u64 0, .int .u64 0, .string ⟨#[97]⟩, .string ⟨#[98]⟩, .string ⟨#[]⟩, .int .u64 0, .int .i64 0] 26) = w1 := ⟨_, rfl⟩
  have hw1' : w.alloc (.cells (kyC nameK) 26) = w1 := hw1
  rw [hw1'] at bk hb0
  obtain ⟨g, hg⟩ : ∃ g, w.heap.size = g := ⟨_, rfl⟩
  rw [hg] at bk
  have HW := Lib.hid hw1
  have HG := Lib.hid hg
  have la := loadK_ky bk
  have cp := scPackK nameK w1 (by unfold Ky.U64 nameK; simp)
  rw [nameK_pack] at cp
  have CP := Lib.hid cp
  clear hw1 hw1' hg cp
  go_enter Try.func8, Try.ntmps8
  go_upto_region 2 with fail
  rw [HW.out, HG.out]
  go_upto_region 3 with (go_at_call 10; refine CP.out.mono ?_; rintro e w2 ⟨A, c, rfl, hr, hb2, hc, -, -⟩)
  have bk2 := bk.bS hb2
  have hbl := hb0.trans (hb2.mono hb0.size)
  have cu := scUnpack (c0 := c) (n := 7) w2 hr (Nat.le_refl _) (by intro x hx; simp at hx; omega) (by omega) rfl hc
  rw [nameK_unp] at cu
  have CU := Lib.hid cu
  clear la cu hb2
  go_wp2_with fail
  refine CU.out.mono ?_
  rintro e w3 ⟨rfl, hb3⟩
  have hr3 : Rb w3 w3.heap.size A [110, 97, 0, 1, 98, 0, 1] := hr.belowS hb3
  have bk3 := bk2.bS hb3
  have hbl3 := hbl.trans (hb3.mono hbl.size)
  clear hr bk2 hb3 hbl
  go_wp2_with fail
  refine (scUnpack (zs := [120]) (B := w3.heap.size + 1 + 1) (n := 1) (c0 := 1) _ (Rd.lit' (by simp)) (by simp) (by intro x hx; simp at hx; omega) (by omega) rfl (by omega)).mono ?_
  rw [badK_unp]
  rintro e w5 ⟨rfl, hb5⟩
  have hbA : Below w3.heap.size w3 ((w3.alloc (.cells (kyC nameK) 26)).alloc (.cells (bv [120]).toArray 5)) := ((Below.refl _ w3).alloc (Nat.le_refl _) _).alloc (by simp) _
  have hb35 : Below w3.heap.size w3 w5 := hbA.trans (hb5.mono hbA.size)
  have bk4 : Bk w5 w3.heap.size 26 (kyC nameK) := ((Bk.new w3 _ (kyC nameK)).alloc _).bS hb5
  have hb6 : Below w3.heap.size w3 (w5.alloc (.cells (kyC zeroKy) 26)) := hb35.alloc hb35.size _
  have bk46 := bk4.alloc (.cells (kyC zeroKy) 26)
  clear hb5 hbA hb35 bk4
  go_upto_region 5 with fail
  obtain ⟨w6, h6⟩ : ∃ w6, w5.alloc (.cells (kyC zeroKy) 26) = w6 := ⟨_, rfl⟩
  rw [h6] at hb6 bk46 ⊢
  have bk6 := bk3.bS hb6
  have hr6 : Rb w6 w6.heap.size A [110, 97, 0, 1, 98, 0, 1] := hr3.belowS hb6
  have la1 := loadK_ky bk6
  have la4 := loadK_ky bk46
  have he := eqlKy nameK w6
  have hcv : (convert 27 9 (.slice A 7 c)).run Try.prog w6 = .ok (.string ⟨#[110, 97, 0, 1, 98, 0, 1]⟩) w6 := by
    have h := hr6.str (P := Try.prog) Try.underlying27 Try.underlying5 Try.underlying9 c
    rwa [show strOfNums [110, 97, 0, 1, 98, 0, 1] = ⟨#[110, 97, 0, 1, 98, 0, 1]⟩ from by decide +kernel] at h
  clear h6 bk3 bk46
  go_wp2
  go_ret
  exact ⟨rfl, hbl3.trans (hb6.mono hbl3.size)⟩
end Go.Proofs.Ytlamebbolioljaa
