/- Texts of the proof of GatherScriptSaid, joined: SpI SpS0 SpS SpV SpW SpU Row RowF. -/
import Derived.Deep.Cut
import Derived.Deep.RegionHeld3
import Derived.Test.YtoojpagpkbcfjaaGreatJGatherScript2
import Derived.Test.YtoojpagpkbcfjaaGreatJGatherScript1
import Derived.Test.YtoojpagpkbcfjaaGreatJGatherScript3
import Derived.Laws.ResultCell
import Derived.Test.YtoojpagpkbcfjaaGreatJGatherScript5
import Derived.Test.YtoojpagpkbcfjaaGreatJGatherScript4
/- Spans: IDText, TraceText. -/
namespace Go.Proofs.YtoojpagpkbcfjaaGreat
open Go.RowKit

def hexD (z : Nat) : Int := if z < 10 then 48 + z else 87 + z
/-- The digits as they stand when j of them have been laid. -/
def idC (x j : Nat) : List Int := (List.range 16).map fun p => if 16 - j ≤ p then hexD (x / 16 ^ (15 - p) % 16) else 0
def idL (x : Nat) : List Int := (List.range 16).map fun p => hexD (x / 16 ^ (15 - p) % 16)
theorem idC_len (x j : Nat) : (idC x j).length = 16 := by simp [idC]
theorem idC_all (x : Nat) : idC x 16 = idL x := by simp [idC, idL]
theorem idC_zero (x : Nat) : idC x 0 = List.replicate 16 0 := by
  apply List.ext_getElem?
  intro i
  by_cases h : i < 16
  · rw [List.getElem?_replicate, if_pos h]
    simp only [idC, List.getElem?_map, List.getElem?_range h, Option.map_some]
    rw [if_neg (by omega)]
  · rw [List.getElem?_eq_none (by rw [idC_len]; omega), List.getElem?_eq_none (by simp; omega)]
theorem idC_step (x j : Nat) (hj : j < 16) : (idC x j).set (15 - j) (hexD (x / 16 ^ j % 16)) = idC x (j + 1) := by
  apply List.ext_getElem?
  intro i
  by_cases h : i < 16
  · rw [List.getElem?_set]
    by_cases hi : 15 - j = i
    · rw [if_pos hi, if_pos (by rw [idC_len]; omega)]
      simp only [idC, List.getElem?_map, List.getElem?_range h, Option.map_some]
      rw [if_pos (by omega), show 15 - i = j from by omega]
    · rw [if_neg hi]
      simp only [idC, List.getElem?_map, List.getElem?_range h, Option.map_some]
      by_cases h2 : 16 - j ≤ i
      · rw [if_pos h2, if_pos (by omega)]
      · rw [if_neg h2, if_neg (by omega)]
  · rw [List.getElem?_eq_none (by rw [List.length_set, idC_len]; omega), List.getElem?_eq_none (by rw [idC_len]; omega)]
theorem hexD_rng (z : Nat) (h : z < 16) : 0 ≤ hexD z ∧ hexD z ≤ 255 := by unfold hexD; split <;> omega
def digits16 : ByteArray := ⟨#[48, 49, 50, 51, 52, 53, 54, 55, 56, 57, 97, 98, 99, 100, 101, 102]⟩
theorem hexD_get : ∀ (z : Nat) (h : z < 16), ((digits16[z]'h).toNat : Int) = hexD z := by decide +kernel
theorem and15 (v : Nat) (hv : v < 18446744073709551616) : bits .and .u64 (v : Int) 15 = ((v % 16 : Nat) : Int) := by
  have h := u64_and_nat v 15 hv (by omega)
  rw [show ((15 : Nat) : Int) = (15 : Int) from rfl] at h
  rw [h]
  have : v &&& 15 = v % 16 := Nat.and_two_pow_sub_one_eq_mod v 4
  rw [this]

theorem bv_zeros (n : Nat) : (madeCells #[Value.int .u8 0] n).toList = bv (List.replicate n 0) := by
  rw [toList_madeCells_one, bv, List.map_replicate]
theorem bv_set (l : List Int) (k : Nat) (z : Int) : (bv l).toArray.setIfInBounds k (.int .u8 z) = (bv (l.set k z)).toArray := by
  rw [List.setIfInBounds_toArray, bv, bv, List.map_set]
theorem shr_nib {x : Nat} {e : Nat} (k : Nat) (h : e = 4 * k) : (x : Int) / 2 ^ e = ((x / 16 ^ k : Nat) : Int) := by
  subst h
  have e : (2 : Nat) ^ (4 * k) = 16 ^ k := by rw [Nat.pow_mul]
  rw [← e]
  simp

theorem idL_byt (x : Nat) : Byt (idL x) := fun z hz => by
  obtain ⟨p, _, rfl⟩ := List.mem_map.1 hz
  exact hexD_rng _ (by omega)
def trcL (hi lo : Nat) : ByteArray := strOfNums (idL hi) ++ strOfNums (idL lo)
end Go.Proofs.YtoojpagpkbcfjaaGreat


/- Spans: bootprintkit.SmallSpan. -/
namespace Go.Proofs.YtoojpagpkbcfjaaGreat
open Go.RowKit

def tgSmall (most : Int) (t : Tg) : Bool := decide ((t.key.size : Int) ≤ most) && decide ((t.val.size : Int) ≤ most)
def smallB (s : Sp) (most : Int) : Bool := decide ((s.service.size : Int) ≤ most) && decide ((s.name.size : Int) ≤ most) && decide ((s.tags.length : Int) ≤ most) && s.tags.all (tgSmall most)
set_option maxRecDepth 100000 in
set_option maxHeartbeats 2000000 in
theorem kitSmall {A : Option Addr} {c n B : Nat} (s : Sp) (most : Int) (w : World) (hf : RbT w B A s.tags) (hn : s.tags.length = n) (hB : B ≤ w.heap.size) (hnl : n ≤ 9223372036854775807) :
    Calls Tryz.prog 33 #[spV s A n c, .int .i64 most] w fun e w' => e = .returned (.bool (smallB s most)) ∧ Below w.heap.size w w' := by
  obtain ⟨q, hq⟩ : ∃ q, smallB s most = q := ⟨_, rfl⟩
  rw [hq]
  unfold smallB at hq
  rw [hn] at hq
  have HQ := Lib.hid hq
  have HN := Lib.hid hn
  have hb0 : Below w.heap.size w (w.alloc (.cells (spC s A n c) 40)) := (Below.refl _ w).alloc (Nat.le_refl _) _
  have hf1 := Rd.alloc hf hB (.cells (spC s A n c) 40)
  have bk := Bk.new w 40 (spC s A n c)
  clear hq hn
  by_cases h1 : most < (s.service.size : Int)
  · go_enter Tryz.func33, Tryz.ntmps33
    go_wp2
    go_ret
    have : q = false := by rw [← HQ.out, decide_eq_false (show ¬ _ by omega)]; rfl
    exact ⟨by rw [this]; rfl, hb0⟩
  have d1 : decide (most < (s.service.size : Int)) = false := by simp; omega
  by_cases h2 : most < (s.name.size : Int)
  · go_enter Tryz.func33, Tryz.ntmps33
    go_wp2
    go_ret
    have : q = false := by rw [← HQ.out, decide_eq_false (p := (s.name.size : Int) ≤ most) (by omega)]; simp
    exact ⟨by rw [this]; rfl, hb0⟩
  have d2 : decide (most < (s.name.size : Int)) = false := by simp; omega
  by_cases h3 : most < (n : Int)
  · go_enter Tryz.func33, Tryz.ntmps33
    go_wp2
    go_ret
    have : q = false := by rw [← HQ.out, decide_eq_false (p := (n : Int) ≤ most) (by omega)]; simp
    exact ⟨by rw [this]; rfl, hb0⟩
  have d3 : decide (most < (n : Int)) = false := by simp; omega
  have hq2 : s.tags.all (tgSmall most) = q := by
    rw [← HQ.out, decide_eq_true (p := (s.service.size : Int) ≤ most) (by omega), decide_eq_true (p := (s.name.size : Int) ≤ most) (by omega), decide_eq_true (p := (n : Int) ≤ most) (by omega)]
    simp
  have HQ2 := Lib.hid hq2
  clear hq2
  obtain ⟨w1, hw1⟩ : ∃ w1, w.alloc (.cells (spC s A n c) 40) = w1 := ⟨_, rfl⟩
  rw [hw1] at hb0 hf1 bk
  obtain ⟨g, hg⟩ : ∃ g, w.heap.size = g := ⟨_, rfl⟩
  rw [hg] at bk
  have HW := Lib.hid hw1
  have HG := Lib.hid hg
  have k10 : w1.cell? ⟨g, 10, none⟩ = some (.slice A n c) := bk.cell 10
  have k4 : w1.cell? ⟨g, 4, none⟩ = some (.string s.service) := bk.cell 4
  have k5 : w1.cell? ⟨g, 5, none⟩ = some (.string s.name) := bk.cell 5
  clear hw1 bk hg
  go_enter Tryz.func33, Tryz.ntmps33
  go_wp2_with fail
  rw [HW.out, HG.out]
  go_loopw [5] (fun iv_ wr => ∃ j : Nat, j ≤ n ∧ iv_ = .int .i64 j ∧ (s.tags.take j).all (tgSmall most) = true ∧ ∃ d, wr = w1.drewN d) (fun i _ => n - (intOf i).toNat)
  case atStart => exact ⟨0, by omega, rfl, rfl, 0, rfl⟩
  case round =>
    obtain ⟨j, hj, rfl, hall, d, rfl⟩ := hrel
    have HA := Lib.hid hall
    clear hall
    have k10' : (w1.drewN d).cell? ⟨g, 10, none⟩ = some (.slice A n c) := k10
    by_cases hlt : j < n
    · have hlt' : (j : Int) < (n : Int) := by omega
      obtain ⟨x, hx⟩ : ∃ x, s.tags[j]? = some x := ⟨_, List.getElem?_eq_getElem (by rw [HN.out]; exact hlt)⟩
      obtain ⟨b, o, rfl, hbb, c1, c2⟩ := RbT.get hf1 hx
      have c1' : (w1.drewN d).cell? ⟨b, o + j * 2, none⟩ = some (.string x.key) := c1
      have c2' : (w1.drewN d).cell? ⟨b, o + j * 2 + 1, none⟩ = some (.string x.val) := c2
      have HX := Lib.hid hx
      clear hx c1 c2
      have hno : tgSmall most x = false → q = false := fun h => by
        rw [← HQ2.out, List.all_eq_false]
        exact ⟨x, List.mem_of_getElem? HX.out, by rw [h]; simp⟩
      have HNO := Lib.hid hno
      clear hno
      by_cases g1 : most < (x.key.size : Int)
      · go_wp2
        all_goals go_ret
        all_goals exact ⟨by rw [HNO.out (by rw [tgSmall, decide_eq_false (p := (x.key.size : Int) ≤ most) (by omega)]; rfl)]; rfl, below_drewN hb0 _⟩
      have e1 : decide (most < (x.key.size : Int)) = false := by simp; omega
      by_cases g2 : most < (x.val.size : Int)
      · go_wp2
        all_goals go_ret
        all_goals exact ⟨by rw [HNO.out (by rw [tgSmall, decide_eq_false (p := (x.val.size : Int) ≤ most) (by omega)]; simp)]; rfl, below_drewN hb0 _⟩
      have e2 : decide (most < (x.val.size : Int)) = false := by simp; omega
      go_wp2
      go_roundw
      case rel => exact ⟨j + 1, by omega, by go_num, by rw [take_snoc HX.out, List.all_append, HA.out]; simp [tgSmall]; omega, _, rfl⟩
      case measure => simp [intOf]; omega
    · have hlt' : decide ((j : Int) < (n : Int)) = false := by simp; omega
      go_wp2
      go_ret
      have : q = true := by
        rw [← HQ2.out]
        have h1 := HA.out
        rwa [List.take_of_length_le (by rw [HN.out]; omega)] at h1
      exact ⟨by rw [this]; rfl, below_drewN hb0 _⟩
end Go.Proofs.YtoojpagpkbcfjaaGreat


/- Spans: bootprintkit.SmallSpan, SameSpan. -/
namespace Go.Proofs.YtoojpagpkbcfjaaGreat
open Go.RowKit

end Go.Proofs.YtoojpagpkbcfjaaGreat


/- Spans: the examples that each statement of layer 17 asks first. -/
namespace Go.Proofs.YtoojpagpkbcfjaaGreat
open Go.RowKit

def oneS : Sp := ⟨1, 255, 7, 0, ⟨#[97]⟩, ⟨#[120]⟩, 1, 300, 5, true, [⟨⟨#[107]⟩, ⟨#[118]⟩⟩]⟩
theorem one_chk : spChk oneS = 0 := by decide +kernel
theorem one_err : prErr (spEnc oneS) = 0 := by decide +kernel
theorem one_sp : (prAll (spEnc oneS)).1 = oneS := by decide +kernel
theorem zero_chk : spChk zeroSp = 2 := by decide +kernel
theorem one_trc : (strOfNums (idL 1) ++ strOfNums (idL 255)) = ⟨#[48, 48, 48, 48, 48, 48, 48, 48, 48, 48, 48, 48, 48, 48, 48, 49, 48, 48, 48, 48, 48, 48, 48, 48, 48, 48, 48, 48, 48, 48, 102, 102]⟩ := by decide +kernel
def OnePost (w : World) (e : Ending) (w' : World) : Prop := ∃ A, e = .returned (spV oneS A 1 1) ∧ RbT w' w'.heap.size A oneS.tags ∧ Below w.heap.size w w'
end Go.Proofs.YtoojpagpkbcfjaaGreat


/- Spans: 'lives' answers true. -/
namespace Go.Proofs.YtoojpagpkbcfjaaGreat
open Go.RowKit

theorem Byt.nil : Byt [] := fun x hx => by simp at hx
theorem Byt.one {x : Int} (h0 : 0 ≤ x) (h1 : x ≤ 255) : Byt [x] := fun y hy => by simp at hy; omega
theorem pie_byt (s : ByteArray) : Byt (pie s) := (numEnc_byt _).append (nums_byt s)
theorem byt_flat {α : Type} {f : α → List Int} (l : List α) (h : ∀ x ∈ l, Byt (f x)) : Byt (l.flatMap f) := fun y hy => by
  obtain ⟨x, hx, hy⟩ := List.mem_flatMap.1 hy
  exact h x hx y hy
theorem spEnc_byt (s : Sp) : Byt (spEnc s) := by
  unfold spEnc spHead
  refine (((((byt_flat _ fun x _ => ordEnc_byt x).append ((pie_byt _).append (pie_byt _))).append (Byt.one (by omega) (by omega))).append ((numEnc_byt _).append (numEnc_byt _))).append ?_ |>.append (numEnc_byt _)).append (byt_flat _ fun t _ => (pie_byt _).append (pie_byt _))
  split
  · exact Byt.one (by omega) (by omega)
  · exact Byt.one (by omega) (by omega)
theorem one_u64 : oneS.U64 := by unfold Sp.U64 oneS; simp
theorem one_len : (spEnc oneS).length ≤ 1000 ∧ spEnc oneS ≠ [] := by decide +kernel

theorem kitSameOne {A1 A2 : Option Addr} {c1 c2 n : Nat} (w : World) (hn : n = oneS.tags.length) (h1 : RbT w w.heap.size A1 oneS.tags) (h2 : RbT w w.heap.size A2 oneS.tags) : Calls Tryz.prog 39 #[spV oneS A1 n c1, spV oneS A2 1 c2] w fun e w' => e = .returned (.bool true) ∧ Below w.heap.size w w' := by
  subst hn
  have h := kitSameTags (c1 := c1) (c2 := c2) (n := 1) oneS oneS.tags oneS.tags w h1 h2 rfl rfl (Nat.le_refl _) (by omega)
  rw [decide_eq_true rfl] at h
  exact h
end Go.Proofs.YtoojpagpkbcfjaaGreat


/- Spans: Compare. -/
namespace Go.Proofs.YtoojpagpkbcfjaaGreat
open Go.RowKit

set_option maxRecDepth 100000 in
set_option maxHeartbeats 8000000 in
theorem spCompare {A1 A2 : Option Addr} {c1 c2 n m B : Nat} (a b : Sp) (w : World) (hf : RbT w B A1 a.tags) (hg : RbT w B A2 b.tags) (hn : a.tags.length = n) (hm : b.tags.length = m) (hB : B ≤ w.heap.size) (hnl : n ≤ 9223372036854775807) (hml : m ≤ 9223372036854775807) :
    Calls Tryz.prog 63 #[spV a A1 n c1, spV b A2 m c2] w fun e w' => e = .returned (.int .i64 (spCmp a b)) ∧ Below w.heap.size w w' := by
  have hb0 : Below w.heap.size w ((w.alloc (.cells (spC a A1 n c1) 40)).alloc (.cells (spC b A2 m c2) 40)) := ((Below.refl _ w).alloc (Nat.le_refl _) _).alloc (by simp) _
  have hff := Rd.below hf (hb0.mono hB)
  have hgg := Rd.below hg (hb0.mono hB)
  have bk1 := (Bk.new w 40 (spC a A1 n c1)).alloc (.cells (spC b A2 m c2) 40)
  have bk2 := Bk.new (w.alloc (.cells (spC a A1 n c1) 40)) 40 (spC b A2 m c2)
  rw [World.size_alloc] at bk2
  have hs1 : ((w.alloc (.cells (spC a A1 n c1) 40)).alloc (.cells (spC b A2 m c2) 40)).heap.size = w.heap.size + 2 := by simp
  obtain ⟨W, hW⟩ : ∃ W, (w.alloc (.cells (spC a A1 n c1) 40)).alloc (.cells (spC b A2 m c2) 40) = W := ⟨_, rfl⟩
  rw [hW] at hb0 hff hgg bk1 bk2 hs1
  have HW := Lib.hid hW
  obtain ⟨g, hgq⟩ : ∃ g, w.heap.size = g := ⟨_, rfl⟩
  rw [hgq] at bk1 bk2
  have HG := Lib.hid hgq
  have bd1 := bk1.drew
  have bd2 := bk2.drew
  have fd := Rd.drew hff
  have gd := Rd.drew hgg
  have hbd : Below w.heap.size w W.drew := below_drewN hb0 1
  have hBW : B ≤ W.drew.heap.size := by show B ≤ W.heap.size; omega
  obtain ⟨fa, hfa⟩ : ∃ fa : Int, (if a.fails = true then 1 else 0) = fa := ⟨_, rfl⟩
  obtain ⟨fb, hfb⟩ : ∃ fb : Int, (if b.fails = true then 1 else 0) = fb := ⟨_, rfl⟩
  have hT1 := fun W => spTruth W a.fails
  rw [hfa] at hT1
  have hT2 := fun W => spTruth W b.fails
  rw [hfb] at hT2
  have hres : spCmp a b = orL [cmpTr a.hi a.lo b.hi b.lo, cmpI a.id b.id, cmpI a.parent b.parent, cmpI a.start b.start, cmpI a.length b.length, cmpS a.service b.service, cmpS a.name b.name, cmpI a.kind b.kind, cmpI fa fb, cmpTL a.tags b.tags] := by rw [spCmp, hfa, hfb]
  rw [hres]
  clear hres hfa hfb
  have HN := Lib.hid hn
  have HM := Lib.hid hm
  clear hW hgq hf hg hn hm hb0 hff hgg bk1 bk2 hs1
  go_enter Tryz.func63, Tryz.ntmps63
  go_upto_region 1 with fail
  rw [HW.out, HG.out]
  go_region_held3 (fun w' => (w'.cell? ⟨g, 0, none⟩ = some (.int .u64 a.hi) ∧ w'.cell? ⟨g, 1, none⟩ = some (.int .u64 a.lo) ∧ w'.cell? ⟨g, 2, none⟩ = some (.int .u64 a.id) ∧ w'.cell? ⟨g, 3, none⟩ = some (.int .u64 a.parent) ∧ w'.cell? ⟨g, 4, none⟩ = some (.string a.service) ∧ w'.cell? ⟨g, 5, none⟩ = some (.string a.name) ∧ w'.cell? ⟨g, 6, none⟩ = some (.int .i64 a.kind) ∧ w'.cell? ⟨g, 7, none⟩ = some (.int .i64 a.start) ∧ w'.cell? ⟨g, 8, none⟩ = some (.int .i64 a.length) ∧ w'.cell? ⟨g, 9, none⟩ = some (.bool a.fails) ∧ w'.cell? ⟨g, 10, none⟩ = some (.slice A1 n c1)) ∧ (w'.cell? ⟨g + 1, 0, none⟩ = some (.int .u64 b.hi) ∧ w'.cell? ⟨g + 1, 1, none⟩ = some (.int .u64 b.lo) ∧ w'.cell? ⟨g + 1, 2, none⟩ = some (.int .u64 b.id) ∧ w'.cell? ⟨g + 1, 3, none⟩ = some (.int .u64 b.parent) ∧ w'.cell? ⟨g + 1, 4, none⟩ = some (.string b.service) ∧ w'.cell? ⟨g + 1, 5, none⟩ = some (.string b.name) ∧ w'.cell? ⟨g + 1, 6, none⟩ = some (.int .i64 b.kind) ∧ w'.cell? ⟨g + 1, 7, none⟩ = some (.int .i64 b.start) ∧ w'.cell? ⟨g + 1, 8, none⟩ = some (.int .i64 b.length) ∧ w'.cell? ⟨g + 1, 9, none⟩ = some (.bool b.fails) ∧ w'.cell? ⟨g + 1, 10, none⟩ = some (.slice A2 m c2)))
    (exact ⟨cells11 (by assumption), cells11 (by assumption)⟩)
    (first
      | (go_at_call 79
         refine (spCmpTraces a.hi a.lo b.hi b.lo W.drew).mono ?_
         rintro e w5 ⟨rfl, hb5⟩
         have be1 := bd1.below hb5 bd1.lt
         have be2 := bd2.below hb5 bd2.lt
         have fe := Rd.below fd (hb5.mono hBW)
         have ge := Rd.below gd (hb5.mono hBW)
         have hbe := hbd.trans (hb5.mono hbd.size)
         have hBe := Nat.le_trans hBW hb5.size)
      | (go_at_call 60
         refine (cmpU _ _ _).mono ?_
         rintro e w' ⟨rfl, hw⟩
         rw [hw]
         clear hw w')
      | (go_at_call 80
         refine (cmpJ _ _ _).mono ?_
         rintro e w' ⟨rfl, hw⟩
         rw [hw]
         clear hw w')
      | (go_at_call 81
         refine (cmpStr _ _ _).mono ?_
         rintro e w' ⟨rfl, hw⟩
         rw [hw]
         clear hw w')
      | (go_at_call 82
         refine (cmpN' _ _ _).mono ?_
         rintro e w' ⟨rfl, hw⟩
         rw [hw]
         clear hw w')
      | (go_at_call_of 83 (Value.bool a.fails)
         refine (hT1 _).mono ?_
         rintro e w' ⟨rfl, hw⟩
         rw [hw]
         clear hw w')
      | (go_at_call_of 83 (Value.bool b.fails)
         refine (hT2 _).mono ?_
         rintro e w' ⟨rfl, hw⟩
         rw [hw]
         clear hw w')
      | (go_at_call 84
         refine (spCmpTL w5 fe ge HN.out HM.out hBe hnl hml).mono ?_
         rintro e w6 ⟨rfl, hb6⟩
         have bf1 := be1.below hb6 be1.lt
         have bf2 := be2.below hb6 be2.lt
         have hbf := hbe.trans (hb6.mono hbe.size)
         have hor := cmpOr (l := [cmpTr a.hi a.lo b.hi b.lo, cmpI a.id b.id, cmpI a.parent b.parent, cmpI a.start b.start, cmpI a.length b.length, cmpS a.service b.service, cmpS a.name b.name, cmpI a.kind b.kind, cmpI fa fb, cmpTL a.tags b.tags]) (n := 10) _ rfl (by decide) (Bk.new w6 3 _)
         have hbz := hbf.alloc hbf.size (.cells #[.int .i64 (cmpTr a.hi a.lo b.hi b.lo), .int .i64 (cmpI a.id b.id), .int .i64 (cmpI a.parent b.parent), .int .i64 (cmpI a.start b.start), .int .i64 (cmpI a.length b.length), .int .i64 (cmpS a.service b.service), .int .i64 (cmpS a.name b.name), .int .i64 (cmpI a.kind b.kind), .int .i64 (cmpI fa fb), .int .i64 (cmpTL a.tags b.tags)] 3)
         have bg1 := bf1.alloc (.cells #[.int .i64 (cmpTr a.hi a.lo b.hi b.lo), .int .i64 (cmpI a.id b.id), .int .i64 (cmpI a.parent b.parent), .int .i64 (cmpI a.start b.start), .int .i64 (cmpI a.length b.length), .int .i64 (cmpS a.service b.service), .int .i64 (cmpS a.name b.name), .int .i64 (cmpI a.kind b.kind), .int .i64 (cmpI fa fb), .int .i64 (cmpTL a.tags b.tags)] 3)
         have bg2 := bf2.alloc (.cells #[.int .i64 (cmpTr a.hi a.lo b.hi b.lo), .int .i64 (cmpI a.id b.id), .int .i64 (cmpI a.parent b.parent), .int .i64 (cmpI a.start b.start), .int .i64 (cmpI a.length b.length), .int .i64 (cmpS a.service b.service), .int .i64 (cmpS a.name b.name), .int .i64 (cmpI a.kind b.kind), .int .i64 (cmpI fa fb), .int .i64 (cmpTL a.tags b.tags)] 3))
      | (go_at_call 59
         refine hor.mono ?_
         rintro e w' ⟨rfl, hw⟩
         rw [hw]
         clear hw w')
      | fail)
  all_goals
    go_wp2
    go_ret
    exact ⟨rfl, hbz⟩
end Go.Proofs.YtoojpagpkbcfjaaGreat


/- Rows of structs: cells of a fixed number an element, one behind the other. Plain. -/
namespace Go.Proofs.YtoojpagpkbcfjaaGreat
open Go.RowKit

section
variable {α : Type} {f : α → List Value} {k : Nat}
def flatR (f : α → List Value) (l : List α) : List Value := l.flatMap f
theorem flatR_append (a b : List α) : flatR f (a ++ b) = flatR f a ++ flatR f b := by simp [flatR]
theorem flatR_cons (x : α) (l : List α) : flatR f (x :: l) = f x ++ flatR f l := rfl
theorem flatR_length (hk : ∀ x, (f x).length = k) (l : List α) : (flatR f l).length = l.length * k := by
  induction l with
  | nil => simp [flatR]
  | cons x l ih => rw [flatR_cons, List.length_append, ih, hk, List.length_cons, Nat.add_mul, Nat.one_mul, Nat.add_comm]
theorem flatR_get (hk : ∀ x, (f x).length = k) : ∀ {l : List α} {i : Nat} {x : α}, l[i]? = some x → ∀ j, j < k → (flatR f l)[i * k + j]? = (f x)[j]? := by
  intro l
  induction l with
  | nil => intro i x h; simp at h
  | cons u l ih =>
    intro i x h j hj
    rw [flatR_cons]
    cases i with
    | zero =>
      simp at h
      subst h
      rw [List.getElem?_append_left (by rw [hk]; omega), Nat.zero_mul, Nat.zero_add]
    | succ i =>
      have := ih (i := i) (x := x) (by simpa using h) j hj
      rw [List.getElem?_append_right (by rw [hk, Nat.add_mul]; omega), hk, show (i + 1) * k + j - k = i * k + j from by rw [Nat.add_mul]; omega]
      exact this
theorem flatR_take (hk : ∀ x, (f x).length = k) (l : List α) (n : Nat) : (flatR f l).take (n * k) = flatR f (l.take n) := by
  induction l generalizing n with
  | nil => simp [flatR]
  | cons x l ih =>
    cases n with
    | zero => simp [flatR]
    | succ n => rw [flatR_cons, List.take_succ_cons, flatR_cons, ← ih n, List.take_append, hk, List.take_of_length_le (by rw [hk, Nat.add_mul]; omega), show (n + 1) * k - k = n * k from by rw [Nat.add_mul]; omega]
theorem flatR_drop (hk : ∀ x, (f x).length = k) (l : List α) (n : Nat) : (flatR f l).drop (n * k) = flatR f (l.drop n) := by
  induction l generalizing n with
  | nil => simp [flatR]
  | cons x l ih =>
    cases n with
    | zero => simp [flatR]
    | succ n => rw [flatR_cons, List.drop_succ_cons, ← ih n, List.drop_append, hk, List.drop_eq_nil_of_le (by rw [hk, Nat.add_mul]; omega), show (n + 1) * k - k = n * k from by rw [Nat.add_mul]; omega, List.nil_append]
theorem flatR_one (h1 : ∀ x, ∀ u ∈ f x, u.oneCell' = true) (l : List α) : ∀ u ∈ flatR f l, u.oneCell' = true := by
  intro u hu
  obtain ⟨x, _, hx⟩ := List.mem_flatMap.1 hu
  exact h1 x u hx
/-- An element's cells. -/
theorem flatR_at (hk : ∀ x, (f x).length = k) (h0 : 0 < k) {w : World} {B : Nat} {A : Option Addr} {l : List α} (h : Rd w B A (flatR f l)) {i : Nat} {x : α} (hi : l[i]? = some x) :
    ∃ b o, A = some ⟨b, o, none⟩ ∧ b < B ∧ ∀ j, j < k → w.cell? ⟨b, o + (i * k + j), none⟩ = (f x)[j]? := by
  have hl := (List.getElem?_eq_some_iff.1 hi).1
  have hlen := flatR_length hk l
  have hpos : 0 < (flatR f l).length := by rw [hlen]; exact Nat.mul_pos (by omega) h0
  obtain ⟨b, o, hA, hb, hc⟩ := h (by intro e; rw [e] at hpos; simp at hpos)
  refine ⟨b, o, hA, hb, fun j hj => ?_⟩
  have h1 := flatR_get hk hi j hj
  have h2 : j < (f x).length := by rw [hk]; exact hj
  rw [List.getElem?_eq_getElem h2] at h1 ⊢
  exact hc _ _ h1
end
end Go.Proofs.YtoojpagpkbcfjaaGreat


/- Rows of structs: one stored whole. -/
namespace Go.Proofs.YtoojpagpkbcfjaaGreat
open Go.RowKit

set_option maxRecDepth 100000 in
/-- append in a region that draws. -/
theorem step_appF {w : World} {ops : Array Oper} {o : Oper} {a : Act} {K : Act → World → Prop} {Q : Exit → Act → World → Prop} {E : Prop} (hw : Region.wanted o (yielded ops a.tmps) = true) (s x : Operand) (t : TypeId)
    (ho : o.op = .call { callee := .builtin .append, args := #[s, x], argTypes := #[t, t] })
    (base : Nat) (e : TypeId) (i : TypeInfo) (z : Value) (size bytes : Nat) (ht : Tryz.prog.underlying t = some (.slice e)) (hi : Tryz.prog.info? e = some i) (hz : i.zero = some z)
    (hsize : i.size = size) (hby : i.bytes = bytes) (hzs : z.cells.size = size) (hsz : 0 < size)
    (v : Value) (n : Nat) (xs : List Value) (hs : a.eval s = v) (hown : w.ownsRow base e size v n xs)
    (B : Nat) (A : Option Addr) (m c : Nat) (news : List Value) (hx : a.eval x = .slice A m c) (hl : news.length = m * size) (hr : Rd w B A news) (h1 : ∀ u ∈ news, u.oneCell' = true)
    (h63 : n + m ≤ maxLen) (hbytes : (n + m) * bytes ≤ 140737488355328) (hbase : base ≤ w.heap.size)
    (h : ∀ A' c' w', w'.ownsRow base e size (.slice A' (n + m) c') (n + m) (xs ++ news) → w.grownBy w' v.ownBlock → ((Value.slice A' (n + m) c').ownBlock = v.ownBlock ∨ (Value.slice A' (n + m) c').ownBlock = some w.heap.size) →
      (A' = none → v = .slice none 0 0 ∧ m = 0) → K (a.put o.dst (.slice A' (n + m) c')) w') :
    if Region.wanted o (yielded ops a.tmps) = true then Oper.wp Tryz.prog o a w K Q else E := by
  rw [if_pos hw]
  exact wp_app w s x t ho base e i z size bytes ht hi hz hsize hby hzs hsz v n xs hs hown B A m c news hx hl hr h1 h63 hbytes hbase h
section
variable {α : Type} {f : α → List Value} {k : Nat}
theorem flatR_set1 {l : List α} {i : Nat} (hi : i < l.length) (x : α) : flatR f (l.set i x) = flatR f (l.take i) ++ f x ++ flatR f (l.drop (i + 1)) := by
  rw [List.set_eq_take_append_cons_drop, if_pos hi, flatR_append, flatR_cons, List.append_assoc]
theorem run_storeVar_row {P : Program} (w : World) (g o : Nat) (t ty : TypeId) (cells cur : Array Value) (hg : w.heap[g]? = some (.cells cur t (0, 0))) (hl : o + cells.size ≤ cur.size) (h1 : ∀ v ∈ cells.toList, v.oneCell' = true) (hi : (P.info? ty).map (·.size) = some cells.size) :
    (storeVar ty ⟨g, o, none⟩ (.agg cells)).run P w = .ok () (w.setRow g (cur.toList.take o ++ cells.toList ++ cur.toList.drop (o + cells.size)).toArray) := by
  have := run_storeCells_at (P := P) g o t cells.toList 0 cur w hg (by simpa using hl) h1
  cases hq : P.info? ty with
  | none => simp [hq] at hi
  | some i =>
    have hs : cells.size = i.size := by simp [hq] at hi; omega
    rw [Array.length_toList, Nat.add_zero] at this
    simp [storeVar, sizeOf, typeInfo, hq, Value.cells, hs]
    simpa [hs] using this
/-- A struct stored into a row. -/
theorem row_store {P : Program} (hk : ∀ x, (f x).length = k) (h1 : ∀ x, ∀ u ∈ f x, u.oneCell' = true) {t ty : TypeId} (hi : (P.info? ty).map (·.size) = some k) {W : World} {base g n c i : Nat} {l : List α}
    (h : W.ownsRow base t k (.slice (some ⟨g, 0, none⟩) n c) n (flatR f l)) (hl : l.length = n) (hin : i < n) (x : α) :
    ∃ W', (storeVar ty ⟨g, i * k, none⟩ (.agg (f x).toArray)).run P W = .ok () W' ∧ W'.ownsRow base t k (.slice (some ⟨g, 0, none⟩) n c) n (flatR f (l.set i x)) ∧ W.grownBy W' (some g) ∧ W'.heap.size = W.heap.size := by
  rcases h.2 with ⟨e1, _⟩ | ⟨g', cap', cur, hv, hbase, hb, hnc, hcm, hcs, htk⟩
  · cases e1
  · injection hv with e1 _ e3
    injection e1 with e1
    injection e1 with e1
    subst e1 e3
    have hik : i * k + k ≤ n * k := by
      have := Nat.mul_le_mul_right k (show i + 1 ≤ n from hin)
      rw [Nat.succ_mul] at this
      exact this
    have hnk : n * k ≤ cur.size := by rw [hcs]; exact Nat.mul_le_mul_right k hnc
    have hfl := hk x
    have hst := run_storeVar_row (P := P) W g (i * k) t ty (f x).toArray cur hb (by rw [List.size_toArray, hfl]; omega) (fun v hv => h1 x v (by simpa using hv)) (by rw [List.size_toArray, hfl]; exact hi)
    rw [List.size_toArray, hfl] at hst
    refine ⟨_, hst, ?_, only_row g _, by simp⟩
    refine ⟨by rw [flatR_length hk, List.length_set, hl], .inr ⟨g, c, _, rfl, hbase, setRow_heap W g cur _ _ _ hb, hnc, hcm, ?_, ?_⟩⟩
    · simp only [List.size_toArray, List.length_append, List.length_take, List.length_drop, Array.length_toList, hfl]
      omega
    · have e1 : flatR f (l.take i) = cur.toList.take (i * k) := by
        rw [← flatR_take hk, ← htk, List.take_take, Nat.min_eq_left (by omega)]
      have e2 : flatR f (l.drop (i + 1)) = (cur.toList.drop (i * k + k)).take (n * k - (i * k + k)) := by
        rw [← flatR_drop hk, ← htk, List.drop_take, show (i + 1) * k = i * k + k from Nat.succ_mul i k]
      have hl1 : (cur.toList.take (i * k) ++ f x).length = i * k + k := by
        rw [List.length_append, List.length_take, Array.length_toList, hfl, Nat.min_eq_left (by omega)]
      rw [flatR_set1 (by rw [hl]; exact hin), e1, e2]
      show ((cur.toList.take (i * k) ++ (f x).toArray.toList ++ cur.toList.drop (i * k + k)).toArray.toList).take (n * k) = _
      rw [show (f x).toArray.toList = f x from rfl]
      show (cur.toList.take (i * k) ++ f x ++ cur.toList.drop (i * k + k)).take (n * k) = _
      rw [List.take_append, hl1, List.take_of_length_le (by rw [hl1]; omega)]
end
theorem own_takeK {w : World} {base : Nat} {t : TypeId} {k n m c : Nat} {A : Option Addr} {xs : List Value} (h : w.ownsRow base t k (.slice A n c) n xs) (hm : m ≤ n) : w.ownsRow base t k (.slice A m c) m (xs.take (m * k)) := by
  have hmk := Nat.mul_le_mul_right k hm
  refine ⟨by rw [List.length_take, h.1]; omega, ?_⟩
  rcases h.2 with ⟨e1, e2⟩ | ⟨g, cap, cur, e1, h2, h3, h4, h5, h6, h7⟩
  · injection e1 with e3 e4 e5
    subst e3
    subst e5
    have : m = 0 := by omega
    subst this
    exact .inl ⟨rfl, rfl⟩
  · injection e1 with e3 e4 e5
    subst e3
    subst e5
    refine .inr ⟨g, c, cur, rfl, h2, h3, by omega, h5, h6, ?_⟩
    rw [← h7, List.take_take]
    congr 1
    omega
end Go.Proofs.YtoojpagpkbcfjaaGreat

