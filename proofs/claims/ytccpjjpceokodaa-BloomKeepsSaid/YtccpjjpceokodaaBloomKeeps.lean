/- The statement BloomKeeps: each key of a filter is told to be there. The walk. -/
import Derived.Test.YtccpjjpceokodaaKeeps
import Derived.Test.YtccpjjpceokodaaOpenM
namespace Go.Proofs.Ytccpjjpceokodaa
open Go.RowKit

theorem pw_mod (x : Int) : 2 ^ (x % 8).toNat % 256 = pw x := by
  have h : (x % 8).toNat = 0 ∨ (x % 8).toNat = 1 ∨ (x % 8).toNat = 2 ∨ (x % 8).toNat = 3 ∨ (x % 8).toNat = 4 ∨ (x % 8).toNat = 5 ∨ (x % 8).toNat = 6 ∨ (x % 8).toNat = 7 := by omega
  unfold pw
  rcases h with h | h | h | h | h | h | h | h <;> rw [h] <;> decide
set_option maxHeartbeats 4000000 in
theorem bloomKeeps_walk (A : Option Addr) (n cp : Nat) (keys : List (List Int)) (c : Int) (A2 : Option Addr) (n2 cp2 : Nat) (more : List Int) (w : World) (hk : InM w A n cp keys) (hc : (Lit.int .i64 c).wf = true) (hm : InI w A2 n2 cp2 more) :
    Calls Try.prog 4 #[.slice A n cp, .int .i64 c, .slice A2 n2 cp2] w fun e w' => e = .returned (.bool true) ∧ Below w.heap.size w w' := by
  have hn := hk.len
  have hn2 := hm.len
  have HN := Lib.hid hn
  have HN2 := Lib.hid hn2
  have HC := Lib.hid hc
  clear hn hn2 hc
  go_enter Try.func4, Try.ntmps4
  go_wp2_with fail
  refine (lives_true w).mono ?_
  rintro e w1 ⟨rfl, hb1⟩
  have hk1 := hk.rd.belowS hb1
  by_cases h1 : 200 < n
  · have d1 : (200 : Int) < n := by omega
    go_wp2
    go_ret
    exact ⟨rfl, hb1⟩
  have d1 : decide ((200 : Int) < n) = false := by simp; omega
  have h1' : n ≤ 200 := by omega
  clear h1
  go_wp2_with fail
  refine (lawWeigh (c := cp) w1 hk1 HN.out h1').mono ?_
  rintro e w1 ⟨⟨v, rfl⟩, rfl⟩
  by_cases h2 : 20000 < v
  · go_wp2
    go_ret
    exact ⟨rfl, hb1⟩
  have d2 : decide (20000 < v) = false := by simp; omega
  clear h2
  by_cases h3 : 200 < n2
  · have d3 : (200 : Int) < n2 := by omega
    go_wp2
    go_ret
    exact ⟨rfl, hb1⟩
  have d3 : decide ((200 : Int) < n2) = false := by simp; omega
  have h3' : n2 ≤ 200 := by omega
  clear h3
  go_wp2_with fail
  rcases bits200 n c h1' with ⟨hcc, hbits⟩ | ⟨hcc, n8, k, h80, h81, hk0, hk3, hbits⟩
  · refine (bloomMake0 (A := A) (c := cp) w1 HC.out hbits (.inl rfl) (by omega)).mono ?_
    rintro e w1 ⟨rfl, rfl⟩
    rcases hcc with hcc | hcc
    · go_wp2
      go_ret
      exact ⟨rfl, hb1⟩
    · have d4 : decide (c < 1) = false := by simp; omega
      go_wp2
      go_ret
      exact ⟨rfl, hb1⟩
  · refine (bloomMake1 (c := cp) w1 hk1 hk.byt HN.out (Nat.le_refl _) HC.out h80 h81 hk0 hk3 hbits (by omega)).mono ?_
    rintro e w2 ⟨A', c', rfl, happ, hne⟩
    obtain ⟨g, cap', hv⟩ := ownsRow_succ happ.own
    injection hv with hv1 hv2 hv3
    subst hv1 hv3
    clear hv2
    have hgb := (happ.lo _ rfl).1
    have hI := hm.rd.belowS hb1
    have HM := Lib.hid hm.wf
    clear hm hne
    go_wp2_with fail
    go_loopw [9] (fun iv_ wr => ∃ (i : Nat) (ps : List Int), i ≤ n2 ∧ iv_ = .int .i64 i ∧ (∀ p ∈ ps, 0 ≤ p ∧ p < (n8 : Int) * 8) ∧ App w1.heap.size 5 1 w1 (.slice none 0 0) wr (.slice (some ⟨g, 0, none⟩) (n8 + 1) c') (n8 + 1) (bv (fill (filterOf n8 k keys) ps))) (fun i _ => n2 - (intOf i).toNat)
    case atStart => exact ⟨0, [], by omega, rfl, (fun p hp => by cases hp), happ⟩
    case round =>
      obtain ⟨i, ps, hi, rfl, hps, happx⟩ := hrel
      clear happ
      have HPS := Lib.hid hps
      clear hps
      by_cases hlti : i < n2
      · obtain ⟨b2, o2, m, hm1, rfl, hb2, hc2⟩ := Ri.get (Rd.below hI happx.below0) (k := i) (by rw [HN2.out]; exact hlti)
        have hpk := kitPick m (n8 * 8) wr (by omega) (by omega)
        have hq0 := Int.emod_nonneg m (show ((n8 * 8 : Nat) : Int) ≠ 0 by omega)
        have hq1 := Int.emod_lt_of_pos m (show (0 : Int) < ((n8 * 8 : Nat) : Int) by omega)
        obtain ⟨x, hx⟩ : ∃ x, m % ((n8 * 8 : Nat) : Int) = x := ⟨_, rfl⟩
        rw [hx] at hpk hq0 hq1
        rw [show ((n8 * 8 : Nat) : Int) = (n8 : Int) * 8 from by omega] at hpk hq1
        clear hx
        have hfb2 : Byt (fill (filterOf n8 k keys) ps) := fill_byt _ (fbyt n8 keys hk3)
        have hfl2 : (fill (filterOf n8 k keys) ps).length = n8 + 1 := (fill_len _ _).trans (flen ..)
        obtain ⟨y, hy⟩ : ∃ y, (fill (filterOf n8 k keys) ps).getD (x / 8).toNat 0 = y := ⟨_, rfl⟩
        have hyb := hfb2.getD (x / 8).toNat
        rw [hy] at hyb
        have hyc0 := happx.own.cellAt (x / 8).toNat (by omega)
        have hyv : (bv (fill (filterOf n8 k keys) ps))[(x / 8).toNat]? = some (.int .u8 y) := by
          apply bv_get
          rw [← hy, List.getD_eq_getElem?_getD, List.getElem?_eq_getElem (by omega)]
          rfl
        have hyc : wr.cell? ⟨g, (x / 8).toNat, none⟩ = some (.int .u8 y) := hyc0.trans hyv
        have hfr := happx.own.frozenAt (x / 8).toNat
        have hsx : fill (filterOf n8 k keys) (ps ++ [x]) = (fill (filterOf n8 k keys) ps).set (x / 8).toNat (bits .or .u8 y (pw x)) := by
          rw [fill_snoc, setb, hy]
        have HSX := Lib.hid hsx
        clear hsx hyv hyc0 hy hfl2 hfb2 hm1
        have hx8 : x / 8 < (n8 : Int) + 1 := by omega
        go_wp2_with fail
        refine hpk.mono ?_
        rintro e wr ⟨rfl, rfl⟩
        go_wp2
        rw [pw_mod]
        go_roundw
        case rel =>
          refine ⟨i + 1, ps ++ [x], by omega, by go_num, ?_, ?_⟩
          · intro p hp
            rcases List.mem_append.1 hp with hp | hp
            · exact HPS.out p hp
            · rw [List.mem_singleton.1 hp]; exact ⟨hq0, hq1⟩
          · have h1 := happx.set (x / 8).toNat (.int .u8 (bits .or .u8 y (pw x)))
            rw [bv_set, ← HSX.out] at h1
            exact h1
        case measure => simp [intOf]; omega
      · obtain ⟨w3, rfl⟩ : ∃ w3, w3 = wr := ⟨_, rfl⟩
        have hb2 := happx.below0
        have hk2 := hk1.belowS hb2
        have hrd := happx.rd
        have hB2 := hb1.trans (hb2.mono hb1.size)
        have hkeep := fun (key : List Int) (hkey : key ∈ keys) => keeps hkey h80 h81 hk0 hk3 ps HPS.out
        have HK := Lib.hid hkeep
        have hfb2 : Byt (fill (filterOf n8 k keys) ps) := fill_byt _ (fbyt n8 keys hk3)
        have hfl2 : (fill (filterOf n8 k keys) ps).length = n8 + 1 := (fill_len _ _).trans (flen ..)
        have HFL := Lib.hid hfl2
        have HKB := Lib.hid hk.byt
        clear hkeep hfl2 happx hgb hI hk hk1
        go_wp2_with fail
        go_loopw [11] (fun iv_ wx => ∃ j : Nat, j ≤ n ∧ iv_ = .int .i64 j ∧ Below w3.heap.size w3 wx) (fun i _ => n - (intOf i).toNat)
        case atStart => exact ⟨0, by omega, rfl, Below.refl _ _⟩
        case round =>
          obtain ⟨j, hj, rfl, hbx⟩ := hrel
          by_cases hltj : j < n
          · obtain ⟨key, hkey⟩ : ∃ key, keys[j]? = some key := ⟨_, List.getElem?_eq_getElem (by rw [HN.out]; exact hltj)⟩
            obtain ⟨b, o, A1, c1, rfl, hb, hc, hle, hr1⟩ := RbM.get (hk2.below hbx) hkey
            have hmem := List.mem_of_getElem? hkey
            obtain ⟨hkb1, hkb2⟩ := HKB.out key hmem
            have hhas := bloomHas (c := c') (c1 := c1) (n := n8 + 1) wr (hrd.below hbx) hfb2 hr1 hkb1 (by rw [HFL.out]; omega) hkb2 HFL.out rfl hbx.size hbx.size
            rw [HK.out key hmem] at hhas
            clear hkey hmem
            go_wp2_with fail
            refine hhas.mono ?_
            rintro e w4 ⟨rfl, hb4⟩
            have hb5 := hbx.trans (hb4.mono hbx.size)
            go_wp2
            go_roundw
            case rel => exact ⟨j + 1, by omega, by go_num, hb5⟩
            case measure => simp [intOf]; omega
          · go_wp2
            go_ret
            exact ⟨rfl, hB2.trans (hbx.mono hB2.size)⟩
end Go.Proofs.Ytccpjjpceokodaa
