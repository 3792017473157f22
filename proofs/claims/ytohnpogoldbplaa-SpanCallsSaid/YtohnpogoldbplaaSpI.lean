/- Spans: IDText, TraceText. -/
import Derived.Deep.Cut
import Derived.Deep.RegionHeld3
import Derived.Test.YtohnpogoldbplaaByt
namespace Go.Proofs.Ytohnpogoldbplaa
open Go.RowKit

def hexD (z : Nat) : Int := if z < 10 then 48 + z else 87 + z
/-- The digits as they stand when j of them have been laid. -/
def idC (x j : Nat) : List Int := (List.range 16).map fun p => if 16 - j ≤ p then hexD (x / 16 ^ (15 - p) % 16) else 0
def idL (x : Nat) : List Int := (List.range 16).map fun p => hexD (x / 16 ^ (15 - p) % 16)
theorem idC_len (x j : Nat) : (idC x j).length = 16 := by simp [idC]
theorem idC_all (x : Nat) : idC x 16 = idL x := by simp [idC, idL]
theorem idC_zero (x : Nat) : idC x 0 = List.replicate 16 0 := by
  apply List.ext_getElem?
  intro i
  by_cases h : i < 16
  · rw [List.getElem?_replicate, if_pos h]
    simp only [idC, List.getElem?_map, List.getElem?_range h, Option.map_some]
    rw [if_neg (by omega)]
  · rw [List.getElem?_eq_none (by rw [idC_len]; omega), List.getElem?_eq_none (by simp; omega)]
theorem idC_step (x j : Nat) (hj : j < 16) : (idC x j).set (15 - j) (hexD (x / 16 ^ j % 16)) = idC x (j + 1) := by
  apply List.ext_getElem?
  intro i
  by_cases h : i < 16
  · rw [List.getElem?_set]
    by_cases hi : 15 - j = i
    · rw [if_pos hi, if_pos (by rw [idC_len]; omega)]
      simp only [idC, List.getElem?_map, List.getElem?_range h, Option.map_some]
      rw [if_pos (by omega), show 15 - i = j from by omega]
    · rw [if_neg hi]
      simp only [idC, List.getElem?_map, List.getElem?_range h, Option.map_some]
      by_cases h2 : 16 - j ≤ i
      · rw [if_pos h2, if_pos (by omega)]
      · rw [if_neg h2, if_neg (by omega)]
  · rw [List.getElem?_eq_none (by rw [List.length_set, idC_len]; omega), List.getElem?_eq_none (by rw [idC_len]; omega)]
theorem hexD_rng (z : Nat) (h : z < 16) : 0 ≤ hexD z ∧ hexD z ≤ 255 := by unfold hexD; split <;> omega
def digits16 : ByteArray := ⟨#[48, 49, 50, 51, 52, 53, 54, 55, 56, 57, 97, 98, 99, 100, 101, 102]⟩
theorem hexD_get : ∀ (z : Nat) (h : z < 16), ((digits16[z]'h).toNat : Int) = hexD z := by decide +kernel
theorem and15 (v : Nat) (hv : v < 18446744073709551616) : bits .and .u64 (v : Int) 15 = ((v % 16 : Nat) : Int) := by
  have h := u64_and_nat v 15 hv (by omega)
  rw [show ((15 : Nat) : Int) = (15 : Int) from rfl] at h
  rw [h]
  have : v &&& 15 = v % 16 := Nat.and_two_pow_sub_one_eq_mod v 4
  rw [this]

theorem bv_zeros (n : Nat) : (madeCells #[Value.int .u8 0] n).toList = bv (List.replicate n 0) := by
  rw [toList_madeCells_one, bv, List.map_replicate]
theorem mk16 (w : World) : (Instr.makeSlice 28 (.int .i64 16) (.int .i64 16)).run Try.prog w = .ok (.slice (some ⟨w.heap.size, 0, none⟩) 16 16) (w.alloc (.cells (bv (List.replicate 16 0)).toArray 5)) := by
  obtain ⟨i, hi, hz0, hz1, hz2⟩ := info_parts u8info
  have h1 := run_make (P := Try.prog) w 28 5 i (.int .u8 0) Try.underlying28 hi hz0 .i64 .i64 16 16 (by omega) (by omega) (by rw [hz2]; omega) (by omega)
  rw [h1, hz1, show (16 : Int).toNat = 16 from rfl, Nat.mul_one]
  rw [← bv_zeros]
  rfl
theorem bv_set (l : List Int) (k : Nat) (z : Int) : (bv l).toArray.setIfInBounds k (.int .u8 z) = (bv (l.set k z)).toArray := by
  rw [List.setIfInBounds_toArray, bv, bv, List.map_set]
theorem shr_nib {x : Nat} {e : Nat} (k : Nat) (h : e = 4 * k) : (x : Int) / 2 ^ e = ((x / 16 ^ k : Nat) : Int) := by
  subst h
  have e : (2 : Nat) ^ (4 * k) = 16 ^ k := by rw [Nat.pow_mul]
  rw [← e]
  simp

set_option maxRecDepth 100000 in
set_option maxHeartbeats 1000000 in
theorem spIDText {x : Nat} (w : World) (hx : x < 18446744073709551616) :
    Calls Try.prog 28 #[.int .u64 (x : Nat)] w fun e w' => e = .returned (.string (strOfNums (idL x))) ∧ Below w.heap.size w w' := by
  have hmk := mk16 w
  have bk := Bk.new w 5 (bv (List.replicate 16 0)).toArray
  have hb0 : Below w.heap.size w (w.alloc (.cells (bv (List.replicate 16 0)).toArray 5)) := (Below.refl _ w).alloc (Nat.le_refl _) _
  obtain ⟨C, hC⟩ : ∃ C, (bv (List.replicate 16 0)).toArray = C := ⟨_, rfl⟩
  rw [hC] at hmk hb0
  have bk1 : Bk (w.alloc (.cells C 5)) w.heap.size 5 (bv (idC x 0)).toArray := by rw [idC_zero, ← hC]; exact bk
  clear bk hC
  obtain ⟨w1, hw1⟩ : ∃ w1, w.alloc (.cells C 5) = w1 := ⟨_, rfl⟩
  rw [hw1] at hmk hb0 bk1
  obtain ⟨g, hg⟩ : ∃ g, w.heap.size = g := ⟨_, rfl⟩
  rw [hg] at hmk bk1 hb0 ⊢
  clear hw1
  go_enter Try.func28, Try.ntmps28
  go_wp2
  go_loopw [8] (fun iv_ wr => ∃ j : Nat, j ≤ 16 ∧ iv_ = .int .i64 j ∧ Bk wr g 5 (bv (idC x j)).toArray ∧ Below g w wr) (fun i _ => 16 - (intOf i).toNat)
  case atStart => exact ⟨0, by omega, rfl, bk1, hb0⟩
  case round =>
    clear hmk bk1 hb0
    obtain ⟨j, hj, rfl, bk, hb⟩ := hrel
    by_cases hlt : j < 16
    · have hlt' : (j : Int) < 16 := by omega
      obtain ⟨d, hd⟩ : ∃ d : Nat, 15 - j = d := ⟨_, rfl⟩
      have hdj : (15 : Int) - (j : Int) = (d : Int) := by omega
      have hd16 : d < 16 := by omega
      obtain ⟨z, hz⟩ : ∃ z : Nat, x / 16 ^ j % 16 = z := ⟨_, rfl⟩
      have hz16 : z < 16 := by omega
      have hq : x / 16 ^ j < 18446744073709551616 := Nat.lt_of_le_of_lt (Nat.div_le_self _ _) hx
      have hand : bits .and .u64 ((x : Int) / 2 ^ (4 * j)) 15 = (z : Int) := by
        rw [shr_nib j rfl, and15 _ hq, hz]
      have hstep : (idC x j).set d (hexD z) = idC x (j + 1) := by rw [← hd, ← hz]; exact idC_step x j hlt
      have hcd : ∃ u, wr.cell? ⟨g, d, none⟩ = some u := by
        rw [bk.cell d, List.getElem?_toArray]
        exact ⟨_, List.getElem?_eq_getElem (by rw [bv_length, idC_len]; exact hd16)⟩
      obtain ⟨u, hcd⟩ := hcd
      have hfd : wr.frozen? ⟨g, d, none⟩ = false := bk.frozen d
      have hdg : (((⟨#[48, 49, 50, 51, 52, 53, 54, 55, 56, 57, 97, 98, 99, 100, 101, 102]⟩ : ByteArray)[z]'hz16).toNat : Int) = hexD z := hexD_get z hz16
      have b2 := bk.set d (.int .u8 (hexD z))
      rw [bv_set, hstep] at b2
      have HBK := Lib.hid b2
      clear bk b2 hstep hz hq hd
      go_wp2_with fail
      go_roundw
      case rel => exact ⟨j + 1, by omega, by go_num, HBK.out, hb.setCell (p := ⟨g, d, none⟩) (Nat.le_refl _) _⟩
      case measure => simp [intOf]; omega
    · have hlt' : decide ((j : Int) < 16) = false := by simp; omega
      obtain rfl : j = 16 := by omega
      rw [idC_all] at bk
      have hrd : Rb wr wr.heap.size (some ⟨g, 0, none⟩) (idL x) := fun _ => ⟨g, 0, rfl, bk.lt, fun k u hu => by
        rw [Nat.zero_add, bk.cell k]
        simpa using hu⟩
      have hconv := Rb.str (P := Try.prog) hrd Try.underlying28 Try.underlying5 Try.underlying9 16
      have hl16 : (idL x).length = 16 := by simp [idL]
      rw [hl16] at hconv
      go_wp2
      go_ret
      exact ⟨rfl, hb⟩

theorem idL_byt (x : Nat) : Byt (idL x) := fun z hz => by
  obtain ⟨p, _, rfl⟩ := List.mem_map.1 hz
  exact hexD_rng _ (by omega)
def trcL (hi lo : Nat) : ByteArray := strOfNums (idL hi) ++ strOfNums (idL lo)
set_option maxHeartbeats 1000000 in
theorem spTraceText {hi lo : Nat} (w : World) (h1 : hi < 18446744073709551616) (h2 : lo < 18446744073709551616) :
    Calls Try.prog 26 #[.agg #[.int .u64 (hi : Nat), .int .u64 (lo : Nat)]] w fun e w' => e = .returned (.string (strOfNums (idL hi) ++ strOfNums (idL lo))) ∧ Below w.heap.size w w' := by
  obtain ⟨u, hu⟩ : ∃ u, strOfNums (idL hi) = u := ⟨_, rfl⟩
  obtain ⟨v, hv⟩ : ∃ v, strOfNums (idL lo) = v := ⟨_, rfl⟩
  have hus : u.size = 16 := by rw [← hu, ← nums_len, nums_strOf (idL_byt hi)]; simp [idL]
  have hvs : v.size = 16 := by rw [← hv, ← nums_len, nums_strOf (idL_byt lo)]; simp [idL]
  have c1 := fun W => spIDText (x := hi) W h1
  have c2 := fun W => spIDText (x := lo) W h2
  rw [hu] at c1 ⊢
  rw [hv] at c2 ⊢
  have hadd : ∀ W : World, (Op.stringOp .add u v).run Try.prog W = .ok (.string (u ++ v)) W := fun W => run_string_add_sum _ _ _ (by omega)
  have C1 := Lib.hid c1
  have C2 := Lib.hid c2
  have hsum : u.size + v.size ≤ 9223372036854775807 := by omega
  clear hu hv hus hvs c1 c2
  have bk := Bk.new w 24 #[.int .u64 (hi : Nat), .int .u64 (lo : Nat)]
  have hb0 : Below w.heap.size w (w.alloc (.cells #[.int .u64 (hi : Nat), .int .u64 (lo : Nat)] 24)) := (Below.refl _ w).alloc (Nat.le_refl _) _
  have hs1 : (w.alloc (.cells #[.int .u64 (hi : Nat), .int .u64 (lo : Nat)] 24)).heap.size = w.heap.size + 1 := by simp
  obtain ⟨w1, hw1⟩ : ∃ w1, w.alloc (.cells #[.int .u64 (hi : Nat), .int .u64 (lo : Nat)] 24) = w1 := ⟨_, rfl⟩
  rw [hw1] at bk hb0 hs1
  have HW := Lib.hid hw1
  have k0 : w1.cell? ⟨w.heap.size, 0, none⟩ = some (.int .u64 (hi : Nat)) := bk.cell 0
  have k1 : w1.cell? ⟨w.heap.size, 1, none⟩ = some (.int .u64 (lo : Nat)) := bk.cell 1
  clear hw1
  go_enter Try.func26, Try.ntmps26
  go_upto_region 1 with fail
  rw [HW.out]
  obtain ⟨g, hg⟩ : ∃ g, w.heap.size = g := ⟨_, rfl⟩
  rw [hg] at bk k0 k1 hb0 hs1 ⊢
  go_region_held3 (fun w' => w'.cell? ⟨g, 0, none⟩ = some (.int .u64 (hi : Nat)) ∧ w'.cell? ⟨g, 1, none⟩ = some (.int .u64 (lo : Nat))) (go_keep)
    (first
      | (go_at_call_of 28 (Value.int .u64 (hi : Nat))
         refine (C1.out _).mono ?_
         rintro e w5 ⟨rfl, hb5⟩
         have b5 := bk.drew.below hb5 bk.lt
         have k0' : w5.cell? ⟨g, 0, none⟩ = some (.int .u64 (hi : Nat)) := b5.cell 0
         have k1' : w5.cell? ⟨g, 1, none⟩ = some (.int .u64 (lo : Nat)) := b5.cell 1)
      | (go_at_call_of 28 (Value.int .u64 (lo : Nat))
         refine (C2.out _).mono ?_
         rintro e w6 ⟨rfl, hb6⟩
         have b6 := b5.below hb6 b5.lt
         have k0b : w6.cell? ⟨g, 0, none⟩ = some (.int .u64 (hi : Nat)) := b6.cell 0
         have k1b : w6.cell? ⟨g, 1, none⟩ = some (.int .u64 (lo : Nat)) := b6.cell 1)
      | fail)
  all_goals
    have hs5 : w1.heap.size ≤ w5.heap.size := hb5.size
    have hg5 : g ≤ w1.heap.size := by omega
    have HB6 : Hid (Below g w w6) := (show Below g w w1.drew from below_drewN hb0 1).trans ((hb5.mono (show g ≤ w1.heap.size from hg5)).trans (hb6.mono (by omega)))
    go_wp2
    go_ret
    exact ⟨rfl, by rw [hg]; exact HB6.out⟩
end Go.Proofs.Ytohnpogoldbplaa
