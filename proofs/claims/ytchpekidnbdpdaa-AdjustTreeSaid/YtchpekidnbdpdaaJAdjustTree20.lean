/- Texts of the proof of AdjustTreeSaid, joined: AdjustCalls DpA AdjustTree AdjustTreeP. -/
import Derived.Test.YtchpekidnbdpdaaJAdjustTree19
import Derived.Test.YtchpekidnbdpdaaJAdjustTree12
import Derived.Test.YtchpekidnbdpdaaJAdjustTree8
import Derived.Test.YtchpekidnbdpdaaJAdjustTree9
import Derived.Deep.Cut
import Derived.Deep.CutRange
/- The statement AdjustCalls: any spans are made unique, put under one another and adjusted as the document says. The walk. -/
namespace Go.Proofs.Ytchpekidnbdpdaa
open Go.RowKit
theorem small_na {e : El} (h : smallB e.s 200 = true) (hl : e.s.tags.length = e.n) : e.n ≤ 1000000 := by
  simp only [smallB, Bool.and_eq_true, decide_eq_true_eq] at h
  have := h.1.2
  omega
theorem uniq_u64 {l : List El} (h : ∀ e ∈ l, e.s.U64) : ∀ s ∈ uniq (sps l), s.U64 := fun s hs => by
  have h1 := uniqTo_mem _ _ s hs
  unfold sps at h1
  obtain ⟨e, he, rfl⟩ := List.mem_map.1 h1
  exact h e he
set_option maxRecDepth 100000 in
set_option maxHeartbeats 8000000 in
theorem adjustCalls_walk (A : Option Addr) (n c : Nat) (l : List El) (w : World) (h : InSs w A n c l) :
    Calls Try.prog 4 #[.slice A n c] w fun e w' => e = .returned (.bool true) ∧ Below w.heap.size w w' := by
  have hnm : n ≤ 9223372036854775807 := by have h1 := h.cap; have h2 := h.max; simp only [maxLen] at h2; omega
  have HH : Aside _ := h
  clear h
  go_enter Try.func4, Try.ntmps4
  go_wp2_with fail
  refine (ajLives w).mono ?_
  rintro e w1 ⟨rfl, hb1⟩
  have HB1 := Lib.hid hb1
  clear hb1
  have HSM := Lib.hid (kitSmalls (c := c) 70 200 w1 (HH.out.rd.below HB1.out) HH.out.len HB1.out.size hnm (by omega))
  go_wp2_with fail
  refine HSM.out.mono ?_
  rintro e w2 ⟨q, rfl, hb2, hq⟩
  have HB2 : Hid (Below w.heap.size w w2) := HB1.out.trans (hb2.mono HB1.out.size)
  clear hb2 HSM HB1
  cases q with
  | false =>
    clear hq
    go_wp2
    go_ret
    exact ⟨rfl, HB2.out⟩
  | true =>
    obtain ⟨hq1, hq2⟩ := hq rfl
    have hn : n ≤ 70 := by have := HH.out.len; omega
    have hsm : Hid (∀ e ∈ l, e.n ≤ 1000000) := Lib.hid fun e he => small_na (hq2 e he) (HH.out.rd.ok e he).len
    clear hq hq1 hq2
    obtain ⟨rr, hrr⟩ : ∃ rr, adjS (sps l) = rr := ⟨_, rfl⟩
    have C1 := Lib.hid (ajAdjust (c := c) w2 (HH.out.rd.below HB2.out) HH.out.len HB2.out.size (by omega) hsm.out HH.out.u64)
    rw [hrr] at C1
    go_wp2_with fail
    refine C1.out.mono ?_
    rintro e w3 ⟨A3, c3, l3, rfl, hl3, hr3, hb3, -⟩
    have HB3 : Hid (Below w.heap.size w w3) := HB2.out.trans (hb3.mono HB2.out.size)
    have HR3 := Lib.hid hr3
    have HL3 := Lib.hid hl3
    clear hb3 hr3 hl3 C1 HB2
    have C2 := Lib.hid (raAdjust (c := c) l w3 (HH.out.rd.below HB3.out) HH.out.len HB3.out.size (by omega) HH.out.u64)
    rw [hrr] at C2
    go_wp2_with fail
    refine C2.out.mono ?_
    rintro e w4 ⟨A4, c4, l4, rfl, hl4, hr4, hb4, -⟩
    have HB4 : Hid (Below w.heap.size w w4) := HB3.out.trans (hb4.mono HB3.out.size)
    have HR4 := Lib.hid hr4
    have HR34 : Hid (RbA w4 w4.heap.size A3 l3) := HR3.out.bS hb4
    have HL4 := Lib.hid hl4
    clear hb4 hr4 hl4 C2 HB3 HR3
    have C3 := Lib.hid (ajUnique (c := c) w4 (HH.out.rd.below HB4.out) HH.out.len HB4.out.size (by omega) hsm.out)
    go_wp2_with fail
    refine C3.out.mono ?_
    rintro e w5 ⟨A5, c5, n5, l5, rfl, hl5, hr5, hb5⟩
    have HB45 := Lib.hid hb5
    have HB5 : Hid (Below w.heap.size w w5) := HB4.out.trans (hb5.mono HB4.out.size)
    have HR5 : Hid (RbS w5 w5.heap.size A5 l5) := hr5.rbs
    have HN5 := Lib.hid hr5.len
    have HL5 := Lib.hid hl5
    clear hb5 hr5 hl5 C3
    have C4 := Lib.hid (raUnique (c := c) w5 (HH.out.rd.below HB5.out) HH.out.len HB5.out.size (by omega) hsm.out)
    go_wp2_with fail
    refine C4.out.mono ?_
    rintro e w6 ⟨A6, c6, n6, l6, rfl, hl6, hr6, hb6⟩
    have HB46 : Hid (Below w4.heap.size w4 w6) := HB45.out.trans (hb6.mono HB45.out.size)
    have HB6 : Hid (Below w.heap.size w w6) := HB5.out.trans (hb6.mono HB5.out.size)
    have HR6 : Hid (RbS w6 w6.heap.size A6 l6) := hr6.rbs
    have HR56 : Hid (RbS w6 w6.heap.size A5 l5) := HR5.out.bS hb6
    have HN6 := Lib.hid hr6.len
    have HL6 := Lib.hid hl6
    have hul := uniqTo_len (sps l) (sps l).length
    have hn5 : n5 ≤ 100 := by
      rw [← HN5.out, ← sps_length, HL5.out]
      rw [sps_length, HH.out.len] at hul
      unfold uniq
      rw [sps_length, HH.out.len]
      omega
    have hn6 : n6 ≤ 100 := by
      rw [← HN6.out, ← sps_length, HL6.out]
      rw [sps_length, HH.out.len] at hul
      unfold uniq
      rw [sps_length, HH.out.len]
      omega
    clear hb6 hr6 hl6 C4 HB45 HB5 HR5 hul
    have C5 := kitSames (c1 := c5) (c2 := c6) w6 HR56.out HR6.out HN5.out HN6.out (Nat.le_refl _) (by omega) (by omega)
    rw [show decide (sps l5 = sps l6) = true from decide_eq_true (by rw [HL5.out, HL6.out])] at C5
    have C5 := Lib.hid C5
    go_wp2_with fail
    refine C5.out.mono ?_
    rintro e w7 ⟨rfl, hb7⟩
    have HB47 : Hid (Below w4.heap.size w4 w7) := HB46.out.trans (hb7.mono HB46.out.size)
    have HB7 : Hid (Below w.heap.size w w7) := HB6.out.trans (hb7.mono HB6.out.size)
    clear hb7 C5 HB46 HB6 HR56 HR6 HN5 HN6 HL5 HL6
    have C6 := Lib.hid (ajUp (c := c) w7 (HH.out.rd.below HB7.out) HH.out.len HB7.out.size (by omega) hsm.out (uniq_u64 HH.out.u64))
    go_wp2_with fail
    refine C6.out.mono ?_
    rintro e w8 ⟨A8, c8, n8, l8, rfl, hl8, hr8, hb8⟩
    have HB48 : Hid (Below w4.heap.size w4 w8) := HB47.out.trans (hb8.mono HB47.out.size)
    have HB8 : Hid (Below w.heap.size w w8) := HB7.out.trans (hb8.mono HB7.out.size)
    have HR8 : Hid (RbA w8 w8.heap.size A8 l8) := hr8.rba
    have HN8 := Lib.hid hr8.len
    have HL8 := Lib.hid hl8
    clear hb8 hr8 hl8 C6 HB47 HB7
    have C7 := Lib.hid (raUp (c := c) w8 (HH.out.rd.below HB8.out) HH.out.len HB8.out.size (by omega) hsm.out (uniq_u64 HH.out.u64))
    go_wp2_with fail
    refine C7.out.mono ?_
    rintro e w9 ⟨A9, c9, n9, l9, rfl, hl9, hr9, hb9⟩
    have HB49 : Hid (Below w4.heap.size w4 w9) := HB48.out.trans (hb9.mono HB48.out.size)
    have HB9 : Hid (Below w.heap.size w w9) := HB8.out.trans (hb9.mono HB8.out.size)
    have HR9 : Hid (RbA w9 w9.heap.size A9 l9) := hr9.rba
    have HR89 : Hid (RbA w9 w9.heap.size A8 l8) := HR8.out.bS hb9
    have HN9 := Lib.hid hr9.len
    have HL9 := Lib.hid hl9
    have hn8 : n8 ≤ 1000000 := by
      have h1 := ups_len (sps l)
      have hul := uniqTo_len (sps l) (sps l).length
      rw [← HN8.out, ← List.length_map (f := (·.a)), HL8.out, h1]
      rw [sps_length, HH.out.len] at hul
      unfold uniq
      rw [sps_length, HH.out.len]
      omega
    clear hb9 hr9 hl9 C7 HB48 HB8 HR8
    have C8 := kitSameAds (c1 := c8) (c2 := c9) w9 HR89.out HR9.out HN8.out HN9.out (Nat.le_refl _) hn8
    rw [show decide (l8.map (·.a) = l9.map (·.a)) = true from decide_eq_true (by rw [HL8.out, HL9.out])] at C8
    have C8 := Lib.hid C8
    go_wp2_with fail
    refine C8.out.mono ?_
    rintro e w10 ⟨rfl, hb10⟩
    have HB410 : Hid (Below w4.heap.size w4 w10) := HB49.out.trans (hb10.mono HB49.out.size)
    have HB10 : Hid (Below w.heap.size w w10) := HB9.out.trans (hb10.mono HB9.out.size)
    clear hb10 C8 HB49 HB9 HR89 HR9 HN8 HN9 HL8 HL9
    have hr64 : rr.1.length ≤ 1000000 := by
      have h3 := HR34.out
      have h1 : rr.1.length ≤ 64 := by
        rw [← hrr]
        by_cases e0 : (adjS (sps l)).2 = 0
        · obtain ⟨-, e2, -, -, e5⟩ := adjS_ok e0
          rw [e5, fins_len, ups_len]
          have hul := uniqTo_len (sps l) (sps l).length
          unfold uniq
          omega
        · rw [adjS_bad e0]
          exact Nat.zero_le _
      omega
    have C9 := kitSameAds (c1 := c3) (c2 := c4) w10 (HR34.out.below HB410.out) (HR4.out.below HB410.out) (n := rr.1.length) (m := rr.1.length) (by rw [← HL3.out, List.length_map]) (by rw [← HL4.out, List.length_map]) HB410.out.size hr64
    rw [show decide (l3.map (·.a) = l4.map (·.a)) = true from decide_eq_true (by rw [HL3.out, HL4.out])] at C9
    have C9 := Lib.hid C9
    clear hrr
    go_wp2_with fail
    refine C9.out.mono ?_
    rintro e w11 ⟨rfl, hb11⟩
    have HB11 : Hid (Below w.heap.size w w11) := HB10.out.trans (hb11.mono HB10.out.size)
    clear hb11 C9
    go_wp2
    go_ret
    exact ⟨rfl, HB11.out⟩
end Go.Proofs.Ytchpekidnbdpdaa

/- Layer 21: Depth. -/
namespace Go.Proofs.Ytchpekidnbdpdaa
open Go.RowKit
attribute [local go_sem ↓] loadAd_shutU storeKF_shutA
set_option maxRecDepth 100000 in
set_option maxHeartbeats 4000000 in
theorem ajDepth {A : Option Addr} {c n B : Nat} {l : List AE} (id : Nat) (w : World) (hf : RbA w B A l) (hn : l.length = n) (hB : B ≤ w.heap.size) (hz : n ≤ 1000000) (hsm : ∀ e ∈ l, e.n ≤ 1000000) :
    Calls Try.prog 21 #[.slice A n c, .int .u64 (id : Nat)] w fun e w' => e = .returned (.int .i64 (dptA (l.map (·.a)) id)) ∧ Below w.heap.size w w' := by
  have hc := ajFind (c := c) id w hf hn hB hz hsm
  have HF := Lib.hid hf
  have HN := Lib.hid hn
  have HSM := Lib.hid hsm
  have HC := Lib.hid hc
  obtain ⟨D, hD⟩ : ∃ D, dptA (l.map (·.a)) id = D := ⟨_, rfl⟩
  rw [hD]
  have HD0 := Lib.hid hD
  clear hf hn hsm hc hD
  go_enter Try.func21, Try.ntmps21
  go_wp2_with fail
  refine HC.out.mono ?_
  rintro en w1 ⟨hb1, hr⟩
  obtain ⟨r, hrr⟩ : ∃ r, fndA (l.map (·.a)) id = r := ⟨_, rfl⟩
  rw [hrr] at hr
  have HR := Lib.hid hrr
  have HB1 := Lib.hid hb1
  clear hrr hb1
  have bz := Bk.new w1 47 zadC
  obtain ⟨wz, hwz⟩ : ∃ wz, w1.alloc (.cells zadC 47) = wz := ⟨_, rfl⟩
  obtain ⟨g5, hg5⟩ : ∃ g5, w1.heap.size = g5 := ⟨_, rfl⟩
  have hbz : Below w.heap.size w wz := by rw [← hwz]; exact HB1.out.alloc HB1.out.size _
  have hgw : w.heap.size ≤ g5 := by rw [← hg5]; exact HB1.out.size
  rw [hwz, hg5] at bz
  have HWZ := Lib.hid hwz
  have HG5 := Lib.hid hg5
  clear hwz hg5
  cases r with
  | none =>
    simp only at hr
    subst hr
    obtain ⟨w2, st, b5, g2⟩ := storeAd_ad (a := ⟨zeroSp, 0, 0, 0⟩) (A2 := none) (n2 := 0) (c2 := 0) bz rfl
    have st2 : (storeKF 47 ⟨g5, 0, none⟩ (.agg zadC)).run Try.prog wz = .ok () w2 := st
    have HB2 : Hid (Below w.heap.size w w2) := hbz.trans ⟨g2.os, g2.tape, g2.output, g2.size, fun i hi => g2.block i (by have := hbz.size; omega) (fun e => by have := Option.some.inj e; omega)⟩
    clear st b5 g2
    go_wp2_with (first | (rw [HWZ.out, HG5.out]) | fail)
    all_goals go_ret
    all_goals exact ⟨by rw [← HD0.out]; unfold dptA; rw [HR.out]; rfl, HB2.out⟩
  | some a =>
    obtain ⟨A', n', c', rfl, -, -⟩ := hr
    obtain ⟨w2, st, b5, g2⟩ := storeAd_ad (a := a) (A2 := A') (n2 := n') (c2 := c') bz rfl
    have HB2 : Hid (Below w.heap.size w w2) := hbz.trans ⟨g2.os, g2.tape, g2.output, g2.size, fun i hi => g2.block i (by have := hbz.size; omega) (fun e => by have := Option.some.inj e; omega)⟩
    have B5 : Hid (Bk w2 g5 47 (adC a A' n' c')) := b5
    have HD : Hid (dptG (l.map (·.a)) (n + 1) 0 a = D) := by
      have := HD0.out
      unfold dptA at this
      rw [HR.out, List.length_map, HN.out] at this
      exact this
    clear b5 g2 bz
    go_wp2_with (first | (rw [HWZ.out, HG5.out]) | fail)
    go_loopw [21] (fun v wr => ∃ (t : Nat) (x : Ad) (A2 : Option Addr) (n2 c2 : Nat), v = .int .i64 (t : Nat) ∧ t ≤ n + 1 ∧ Hid (Bk wr g5 47 (adC x A2 n2 c2)) ∧ Hid (Below w.heap.size w wr) ∧ Hid (dptG (l.map (·.a)) (n + 1 - t) t x = D)) (fun v _ => n + 1 - (intOf v).toNat)
    case atStart => exact ⟨0, a, A', n', c', rfl, by omega, B5, HB2, HD⟩
    case round =>
      obtain ⟨t, x, A2, n2, c2, rfl, htn, BX, HBX, HDX⟩ := hrel
      clear st
      by_cases hlt : t < n + 1
      · have hltz : (t : Int) < (n : Int) + 1 := by omega
        have hd := HDX.out
        rw [show n + 1 - t = (n - t) + 1 by omega, dptG] at hd
        have cu : wr.cell? ⟨g5, 11, none⟩ = some (.int .u64 x.up) := BX.out.cell 11
        obtain ⟨up, hup⟩ : ∃ up, x.up = up := ⟨_, rfl⟩
        rw [hup] at hd cu
        by_cases hu0 : up = 0
        · subst hu0
          rw [if_pos rfl] at hd
          have HD2 := Lib.hid hd
          clear hd
          go_wp2
          go_ret
          exact ⟨by rw [← HD2.out]; rfl, HBX.out⟩
        · have hu0z : ((up : Int) == 0) = false := by simp; omega
          rw [if_neg hu0] at hd
          have hc2 := ajFind (c := c) up wr (HF.out.below (HBX.out.mono hB)) HN.out (Nat.le_trans hB HBX.out.size) hz HSM.out
          obtain ⟨r, hrr⟩ : ∃ r, fndA (l.map (·.a)) up = r := ⟨_, rfl⟩
          rw [hrr] at hc2 hd
          have HC2 := Lib.hid hc2
          have HD2 := Lib.hid hd
          clear hd hc2 hrr
          go_wp2_with fail
          refine HC2.out.mono ?_
          rintro en w5 ⟨hb5, hr5⟩
          have HB5 : Hid (Below w.heap.size w w5) := HBX.out.trans (hb5.mono HBX.out.size)
          have BX5 := BX.out.below hb5 BX.out.lt
          have by5 := Bk.new w5 47 zadC
          have BX6 := BX5.alloc (.cells zadC 47)
          have hl5 := BX5.lt
          obtain ⟨w6, hw6⟩ : ∃ w6, w5.alloc (.cells zadC 47) = w6 := ⟨_, rfl⟩
          obtain ⟨g8, hg8⟩ : ∃ g8, w5.heap.size = g8 := ⟨_, rfl⟩
          have hb6 : Below w.heap.size w w6 := by rw [← hw6]; exact HB5.out.alloc HB5.out.size _
          have hs5 := HB5.out.size
          rw [hw6, hg8] at by5
          rw [hw6] at BX6
          rw [hg8] at hl5 hs5
          have HW6 := Lib.hid hw6
          have HG8 := Lib.hid hg8
          clear hw6 hg8 BX5 hb5 cu
          cases r with
          | none =>
            simp only at hr5
            subst hr5
            obtain ⟨w7, st, b7, g7⟩ := storeAd_ad (a := ⟨zeroSp, 0, 0, 0⟩) (A2 := none) (n2 := 0) (c2 := 0) by5 rfl
            have st2 : (storeKF 47 ⟨g8, 0, none⟩ (.agg zadC)).run Try.prog w6 = .ok () w7 := st
            have HB7 : Hid (Below w.heap.size w w7) := hb6.trans ⟨g7.os, g7.tape, g7.output, g7.size, fun i hi => g7.block i (by have := hb6.size; omega) (fun e => by have := Option.some.inj e; omega)⟩
            clear st b7 g7 hb6 by5 BX6
            go_wp2_with (first | (rw [HW6.out, HG8.out]) | fail)
            all_goals go_ret
            all_goals exact ⟨by rw [← HD2.out]; rfl, HB7.out⟩
          | some y =>
            obtain ⟨A7, n7, c7, rfl, -, -⟩ := hr5
            obtain ⟨w7, st, b7, g7⟩ := storeAd_ad (a := y) (A2 := A7) (n2 := n7) (c2 := c7) by5 rfl
            have hl8 := loadK_adB b7
            have BX7 := BX6.grown g7 (fun e => by have := Option.some.inj e; omega)
            obtain ⟨w8, st8, b8, g9⟩ := storeAd_ad (a := y) (A2 := A7) (n2 := n7) (c2 := c7) BX7 rfl
            have HB8 : Hid (Below w.heap.size w w8) := (hb6.trans ⟨g7.os, g7.tape, g7.output, g7.size, fun i hi => g7.block i (by have := hb6.size; omega) (fun e => by have := Option.some.inj e; omega)⟩).trans ⟨g9.os, g9.tape, g9.output, g9.size, fun i hi => g9.block i (by have := hb6.size; have := g7.size; omega) (fun e => by have := Option.some.inj e; omega)⟩
            have B8 : Hid (Bk w8 g5 47 (adC y A7 n7 c7)) := b8
            clear b7 g7 g9 b8 hb6 by5 BX6 BX7
            go_wp2_with (first | (rw [HW6.out, HG8.out]) | fail)
            all_goals go_roundw
            all_goals first
              | exact ⟨t + 1, y, A7, n7, c7, by go_num, by omega, B8, HB8, (show Hid _ from by show _ = _; rw [show n + 1 - (t + 1) = n - t by omega]; exact HD2.out)⟩
              | (simp [intOf]; omega)
      · have hltz : ¬ (t : Int) < (n : Int) + 1 := by omega
        have hd := HDX.out
        rw [show n + 1 - t = 0 by omega, dptG] at hd
        have HD2 := Lib.hid hd
        clear hd
        go_wp2
        go_ret
        exact ⟨by rw [← HD2.out]; rfl, HBX.out⟩
end Go.Proofs.Ytchpekidnbdpdaa

/- The statement AdjustTree: what is adjusted is a tree, whose times can be. The walk. -/
namespace Go.Proofs.Ytchpekidnbdpdaa
open Go.RowKit
attribute [local go_sem ↓] loadSp_shutU loadAd_shutU
theorem wrapSum {a b : Int} (h0 : 0 ≤ a) (h1 : 0 ≤ b) (h2 : a + b ≤ 4611686018427387903) : IntKind.i64.wrap (a + b) = a + b := IntWalk.i64_in _ ⟨by omega, by omega⟩
theorem sumOk {a b : Int} (h : a + b ≤ 4611686018427387903) : decide ((4611686018427387903 : Int) < a + b) = false := decide_eq_false (by omega)
/-- The cells that the law reads of a span in a box, however the world has grown. -/
structure SpBox (W : World) (b : Nat) (s : Sp) (A : Option Addr) (n c : Nat) : Prop where
  bk : Bk W b 32 (spC s A n c)
set_option maxRecDepth 100000 in
set_option maxHeartbeats 16000000 in
theorem adjustTree_walk (A : Option Addr) (n c : Nat) (l : List El) (w : World) (h : InSs w A n c l) :
    Calls Try.prog 6 #[.slice A n c] w fun e w' => e = .returned (.bool true) ∧ Below w.heap.size w w' := by
  have hnm : n ≤ 9223372036854775807 := by have h1 := h.cap; have h2 := h.max; simp only [maxLen] at h2; omega
  have HH : Aside _ := h
  clear h
  go_enter Try.func6, Try.ntmps6
  go_wp2_with fail
  refine (ajLives w).mono ?_
  rintro e w1 ⟨rfl, hb1⟩
  have HB1 := Lib.hid hb1
  clear hb1
  have HSM := Lib.hid (kitSmalls (c := c) 64 200 w1 (HH.out.rd.below HB1.out) HH.out.len HB1.out.size hnm (by omega))
  go_wp2_with fail
  refine HSM.out.mono ?_
  rintro e w2 ⟨q, rfl, hb2, hq⟩
  have HB2 : Hid (Below w.heap.size w w2) := HB1.out.trans (hb2.mono HB1.out.size)
  clear hb2 HSM HB1
  cases q with
  | false =>
    clear hq
    go_wp2
    go_ret
    exact ⟨rfl, HB2.out⟩
  | true =>
    obtain ⟨hq1, hq2⟩ := hq rfl
    have hn : n ≤ 64 := by have := HH.out.len; omega
    have hsm : Hid (∀ e ∈ l, e.n ≤ 1000000) := Lib.hid fun e he => small_na (hq2 e he) (HH.out.rd.ok e he).len
    clear hq hq1 hq2
    obtain ⟨rr, hrr⟩ : ∃ rr, adjS (sps l) = rr := ⟨_, rfl⟩
    have C1 := Lib.hid (ajAdjust (c := c) w2 (HH.out.rd.below HB2.out) HH.out.len HB2.out.size (by omega) hsm.out HH.out.u64)
    rw [hrr] at C1
    go_wp2_with fail
    refine C1.out.mono ?_
    rintro e w3 ⟨A3, c3, l3, rfl, hl3, hr3, hb3, -⟩
    have HB3 : Hid (Below w.heap.size w w3) := HB2.out.trans (hb3.mono HB2.out.size)
    have HR3 := Lib.hid hr3
    have HL3 := Lib.hid hl3
    have HRR := Lib.hid hrr
    clear hb3 hr3 hl3 C1 HB2
    by_cases hr0 : rr.2 = 0
    case neg =>
      have hr0' : ((rr.2 : Int) != 0) = true := by rw [bne_iff_ne]; omega
      have hz := adjS_bad (l := sps l) (by rw [hrr]; exact hr0)
      rw [hrr] at hz
      have hlz : rr.1.length = 0 := by rw [hz]; rfl
      obtain ⟨nn, hnn⟩ : ∃ nn, rr.1.length = nn := ⟨_, rfl⟩
      rw [hnn] at hlz ⊢
      subst hlz
      clear hr0 hz hrr hnn
      go_wp2
      go_ret
      exact ⟨rfl, HB3.out⟩
    have hr0' : ((rr.2 : Int) != 0) = false := by rw [hr0]; rfl
    have e0 : (adjS (sps l)).2 = 0 := by rw [hrr]; exact hr0
    have htree := adjS_tree e0 (fun s hs => by
      unfold sps at hs
      obtain ⟨e, he, rfl⟩ := List.mem_map.1 hs
      exact HH.out.u64 e he)
    have hfine := adjS_fine e0
    rw [hrr] at htree hfine
    obtain ⟨nn, hnn⟩ : ∃ nn, rr.1.length = nn := ⟨_, rfl⟩
    have hn1 : 1 ≤ nn := by rw [← hnn]; exact List.length_pos_iff.2 hfine.ne
    have hn64 : nn ≤ 64 := by
      have := hfine.len
      rw [sps_length, HH.out.len] at this
      omega
    have hl3n : l3.length = nn := by rw [← hnn, ← HL3.out, List.length_map]
    have hsm3 : ∀ e ∈ l3, e.n ≤ 1000000 := fun e he => by
      have h1 : e.a ∈ rr.1 := by rw [← HL3.out]; exact List.mem_map_of_mem he
      have h2 := hfine.chk _ h1
      unfold adChk at h2
      have h3 : spChk e.a.s = 0 := by
        by_cases e1 : spChk e.a.s = 0
        · exact e1
        · rw [if_pos e1] at h2; exact absurd h2 e1
      have h4 := (spChk_parts h3).2.1
      rw [(HR3.out.ok e he).len] at h4
      omega
    rw [hnn]
    have HT : Hid (∀ (i : Nat) (x : AE), l3[i]? = some x → TreeAt rr.1 i x.a) := Lib.hid fun i x hx => htree i x.a (by rw [← HL3.out, List.getElem?_map, hx]; rfl)
    have HRIS : Hid (∀ (i : Nat) (x y : AE), l3[i]? = some x → l3[i + 1]? = some y → x.a.s.id < y.a.s.id) := Lib.hid fun i x y hx hy => hfine.ris i x.a y.a (by rw [← HL3.out, List.getElem?_map, hx]; rfl) (by rw [← HL3.out, List.getElem?_map, hy]; rfl)
    have HN3 := Lib.hid hl3n
    have HSM3 := Lib.hid hsm3
    clear htree hfine hl3n hsm3 e0 hr0 hrr hnn
    go_wp2_with fail
    go_loopw [5] (fun iv_ wr => ∃ i : Nat, i ≤ nn ∧ iv_ = .int .i64 (i : Nat) ∧ Hid (Below w3.heap.size w3 wr)) (fun i _ => nn - (intOf i).toNat)
    case atStart => exact ⟨0, by omega, rfl, Below.refl _ _⟩
    case round =>
      obtain ⟨i, hi, rfl, HBW⟩ := hrel
      by_cases hlt : i < nn
      · have hltz : (i : Int) < (nn : Int) := by omega
        obtain ⟨x, hx⟩ : ∃ x, l3[i]? = some x := ⟨_, List.getElem?_eq_getElem (by rw [HN3.out]; exact hlt)⟩
        obtain ⟨b, o, hA3, ha⟩ := HR3.out.atA hx
        subst hA3
        obtain ⟨b', o', e', -, hc', -⟩ := (HR3.out.below HBW.out).get hx
        cases e'
        have hld := loadK_ae hc'
        have hT := HT.out i x hx
        have bk6 := (Bk.new wr 47 (adC x.a x.A x.n x.c))
        have hld6 := loadK_spB bk6
        have bk6' := bk6.alloc (.cells (spC x.a.s x.A x.n x.c) 32)
        have bk7 := Bk.new (wr.alloc (.cells (adC x.a x.A x.n x.c) 47)) 32 (spC x.a.s x.A x.n x.c)
        rw [World.size_alloc] at bk7
        have hbb : Below w3.heap.size w3 ((wr.alloc (.cells (adC x.a x.A x.n x.c) 47)).alloc (.cells (spC x.a.s x.A x.n x.c) 32)) := (HBW.out.alloc HBW.out.size _).alloc (by rw [World.size_alloc]; have := HBW.out.size; omega) _
        obtain ⟨W6, e6⟩ : ∃ W6, wr.alloc (.cells (adC x.a x.A x.n x.c) 47) = W6 := ⟨_, rfl⟩
        rw [e6] at bk6' bk7 hbb hld6
        obtain ⟨W7, e7⟩ : ∃ W7, W6.alloc (.cells (spC x.a.s x.A x.n x.c) 32) = W7 := ⟨_, rfl⟩
        rw [e7] at bk6' bk7 hbb
        have s6 : W6.heap.size = wr.heap.size + 1 := by rw [← e6]; simp
        obtain ⟨g6, hg6⟩ : ∃ g6, wr.heap.size = g6 := ⟨_, rfl⟩
        rw [hg6] at bk6' bk7 hld6 s6
        have E6 := Lib.hid e6
        have E7 := Lib.hid e7
        have HG6 := Lib.hid hg6
        have S6 := Lib.hid s6
        have B6 : Hid (∀ X, Below W7.heap.size W7 X → Bk X g6 47 (adC x.a x.A x.n x.c)) := Lib.hid fun X hX => bk6'.below hX bk6'.lt
        have B7 : Hid (∀ X, Below W7.heap.size W7 X → Bk X (g6 + 1) 32 (spC x.a.s x.A x.n x.c)) := Lib.hid fun X hX => bk7.below hX bk7.lt
        have HBB := Lib.hid hbb
        have HX := Lib.hid hx
        have HT1 := Lib.hid hT
        clear bk6 bk6' bk7 e6 e7 hg6 s6 hbb hx hT hc' ha
        go_upto_region 12 with fail
        rw [E6.out, HG6.out]
        go_upto_region 13 with fail
        rw [E7.out, S6.out]
        clear hld hld6
        have hdp := fun z : BelowBy W7 => calls_belowBy z (ajDepth (c := c3) x.a.s.id z.w (HR3.out.below (HBB.out.trans (z.h.mono HBB.out.size))) HN3.out (HBB.out.trans (z.h.mono HBB.out.size)).size (by omega) HSM3.out)
        obtain ⟨dp, hdpe⟩ : ∃ dp, dptA (l3.map (·.a)) x.a.s.id = dp := ⟨_, rfl⟩
        simp only [hdpe] at hdp
        have hd0 : decide (dp < 0) = false := by
          have h1 := HT1.out.dpt
          rw [← HL3.out, hdpe] at h1
          simp; omega
        have hst0 : decide (x.a.s.start < 0) = false := by have := HT1.out.lo; simp; omega
        have hsum : decide ((4611686018427387903 : Int) < x.a.s.start + x.a.s.length) = false := sumOk HT1.out.hi
        have hwr : IntKind.i64.wrap (x.a.s.start + x.a.s.length) = x.a.s.start + x.a.s.length := wrapSum HT1.out.lo HT1.out.len.1 HT1.out.hi
        have k2 : ∀ z : BelowBy W7, z.w.cell? ⟨g6 + 1, 2, none⟩ = some (.int .u64 x.a.s.id) := fun z => (B7.out z.w z.h).cell 2
        have k7 : ∀ z : BelowBy W7, z.w.cell? ⟨g6 + 1, 7, none⟩ = some (.int .i64 x.a.s.start) := fun z => (B7.out z.w z.h).cell 7
        have k8 : ∀ z : BelowBy W7, z.w.cell? ⟨g6 + 1, 8, none⟩ = some (.int .i64 x.a.s.length) := fun z => (B7.out z.w z.h).cell 8
        have HDP := Lib.hid hdp
        clear hdp hdpe
        have hafter : Hid (∀ W8, Below W7.heap.size W7 W8 → Bk W8 g6 47 (adC x.a x.A x.n x.c) ∧ Bk W8 (g6 + 1) 32 (spC x.a.s x.A x.n x.c) ∧ Below w3.heap.size w3 W8) := Lib.hid fun W8 h8 => ⟨B6.out W8 h8, B7.out W8 h8, HBB.out.trans (h8.mono HBB.out.size)⟩
        have hpre : (i = 0 ∧ decide ((0 : Int) < (i : Int)) = false) ∨ (∃ (k : Nat) (y : AE), i = k + 1 ∧ decide ((0 : Int) < (i : Int)) = true ∧ decide (x.a.s.id ≤ y.a.s.id) = false ∧ k < nn ∧ ∀ z : BelowBy W7, z.w.cell? ⟨b, o + k * 14 + 2, none⟩ = some (.int .u64 (y.a.s.id : Nat))) := by
          rcases i with _ | k
          · exact .inl ⟨rfl, rfl⟩
          · right
            obtain ⟨y, hy⟩ : ∃ y, l3[k]? = some y := ⟨_, List.getElem?_eq_getElem (by rw [HN3.out]; omega)⟩
            have h1 := HRIS.out k y x hy HX.out
            refine ⟨k, y, rfl, decide_eq_true (by omega), decide_eq_false (by omega), by omega, fun z => ?_⟩
            obtain ⟨b', o', e', -, hc', -⟩ := (HR3.out.below (HBB.out.trans (z.h.mono HBB.out.size))).get hy
            cases e'
            rw [Nat.add_assoc]
            exact hc' 2 (by omega)
        have hgo : (decide (0 < i) = false) ∨ (∃ (k : Nat) (y : AE), (0 : Int) < (i : Int) ∧ decide (0 < i) = true ∧ decide (x.a.s.id ≤ y.a.s.id) = false ∧ (1 : Int) ≤ (i : Int) ∧ (i : Int) - 1 < (nn : Int) ∧ (0 : Int) ≤ (i : Int) - 1 ∧ ((i : Int) - 1).toNat = k ∧ IntKind.i64.wrap ((i : Int) - 1) = (i : Int) - 1 ∧ ∀ z : BelowBy W7, z.w.cell? ⟨b, o + k * 14 + 2, none⟩ = some (.int .u64 (y.a.s.id : Nat))) := by
          rcases hpre with ⟨h0, h1⟩ | ⟨k, y, h0, h1, h2, h3, h4⟩
          · exact .inl (decide_eq_false (by omega))
          · exact .inr ⟨k, y, by omega, decide_eq_true (by omega), h2, by omega, by omega, by omega, by omega, IntWalk.i64_in _ ⟨by omega, by omega⟩, h4⟩
        clear hpre
        have HGO := Lib.hid hgo
        clear hgo
        go_cut [71] from 38 to 71 (fun v W => v = .bool false ∧ ∃ p : BelowBy W7, W = p.w)
        case first =>
          rcases HGO.out with hi0 | ⟨k, y, hi00, hi0, hle, hi1, hi2, hi3, hi4, hi5, hky⟩
          all_goals
            refine wp_region_quiet_below (by kernel_rfl) (by kernel_rfl) ?_
            repeat (first
              | go_big_quiet_step ((go_at_call 21; with_reducible exact HDP.out _))
              | quiet_step ((go_at_call 21; with_reducible exact HDP.out _)))
            refine wpQuiet_nil ?_
            rintro _ ⟨pq, rfl⟩
            go_wp2
            go_meet
            exact ⟨rfl, pq, rfl⟩
        case rest =>
          obtain ⟨rfl, pw, rfl⟩ := hcut
          have h8 := pw.h
          obtain ⟨W8, hW8⟩ : ∃ W8, pw.w = W8 := ⟨_, rfl⟩
          rw [hW8] at h8 ⊢
          clear hW8
          obtain ⟨q6, q7, q8⟩ := hafter.out W8 h8
          clear k2 k7 k8 HDP h8 HGO hd0 hst0 hsum
          have k11 : W8.cell? ⟨g6, 11, none⟩ = some (.int .u64 (x.a.up : Nat)) := q6.cell 11
          by_cases hup : x.a.up = 0
          · obtain ⟨r1, r2⟩ := HT1.out.root hup
            have k12 : W8.cell? ⟨g6, 12, none⟩ = some (.int .i64 x.a.shift) := q6.cell 12
            have k13 : W8.cell? ⟨g6, 13, none⟩ = some (.int .i64 x.a.flag) := q6.cell 13
            have j3 : W8.cell? ⟨g6 + 1, 3, none⟩ = some (.int .u64 (x.a.s.parent : Nat)) := q7.cell 3
            have eup : ((x.a.up : Int) == 0) = true := by rw [hup]; rfl
            have esh : (x.a.shift != 0) = false := by rw [r1]; rfl
            have HB8 : Hid (Below w3.heap.size w3 W8) := q8
            have hpb : (((x.a.s.parent : Int) == 0) = true ∧ (x.a.flag == 0) = true) ∨ (((x.a.s.parent : Int) == 0) = false ∧ (x.a.flag == 0) = false) := by
              by_cases h : x.a.s.parent = 0
              · left; exact ⟨by rw [h]; rfl, by rw [r2.1 h]; rfl⟩
              · right; exact ⟨by rw [beq_eq_false_iff_ne]; omega, by rw [beq_eq_false_iff_ne]; exact fun e => h (r2.2 e)⟩
            clear r1 r2 q6 q7 q8 hup
            rcases hpb with ⟨p1, p2⟩ | ⟨p1, p2⟩
            all_goals
              go_wp2_with fail
              go_roundw
              case rel => exact ⟨i + 1, by omega, by go_num, HB8⟩
              case measure => simp [intOf]; omega
          · obtain ⟨p, hp1, hp2, hp3, hp4, hp5, hp6, hp7, hp8⟩ := HT1.out.under hup
            have eup : ((x.a.up : Int) == 0) = false := by rw [beq_eq_false_iff_ne]; omega
            have CF := ajFind (c := c3) x.a.up W8 (HR3.out.below q8) HN3.out q8.size (by omega) HSM3.out
            rw [HL3.out, hp1] at CF
            have CF := Lib.hid CF
            have H8 : Hid (∀ X, Below W8.heap.size W8 X → Bk X g6 47 (adC x.a x.A x.n x.c) ∧ Bk X (g6 + 1) 32 (spC x.a.s x.A x.n x.c) ∧ Below w3.heap.size w3 X) := Lib.hid fun X hX => ⟨q6.below hX q6.lt, q7.below hX q7.lt, q8.trans (hX.mono q8.size)⟩
            have HP2 := Lib.hid hp2
            have HP : Hid (x.a.flag = 0 ∧ 0 ≤ p.s.start ∧ p.s.start + p.s.length ≤ 4611686018427387903 ∧ 0 ≤ p.s.length ∧ (x.a.s.service ≠ p.s.service → x.a.s.length ≤ p.s.length → p.s.start ≤ x.a.s.start ∧ x.a.s.start + x.a.s.length ≤ p.s.start + p.s.length) ∧ (x.a.s.service = p.s.service → x.a.shift = p.shift)) := Lib.hid ⟨hp3, hp4, hp5, hp6, hp7, hp8⟩
            clear hp1 hp2 hp3 hp4 hp5 hp6 hp7 hp8 q6 q7 q8 hup
            go_wp2_with fail
            refine CF.out.mono ?_
            rintro e W9 ⟨hb9, A9, n9, c9, rfl, -, -⟩
            have bk8 := Bk.new W9 47 (adC p A9 n9 c9)
            have hbA := hb9.alloc hb9.size (.cells (adC p A9 n9 c9) 47)
            obtain ⟨WA, eA⟩ : ∃ WA, W9.alloc (.cells (adC p A9 n9 c9) 47) = WA := ⟨_, rfl⟩
            obtain ⟨g8, hg8⟩ : ∃ g8, W9.heap.size = g8 := ⟨_, rfl⟩
            rw [eA] at bk8 hbA
            rw [hg8] at bk8
            obtain ⟨q6, q7, q8⟩ := H8.out WA hbA
            have EA := Lib.hid eA
            have HG8 := Lib.hid hg8
            have HB8 : Hid (Below w3.heap.size w3 WA) := q8
            clear k11 eA hg8 hbA hb9 CF q8
            have k11 : WA.cell? ⟨g6, 11, none⟩ = some (.int .u64 (x.a.up : Nat)) := q6.cell 11
            have k12 : WA.cell? ⟨g6, 12, none⟩ = some (.int .i64 x.a.shift) := q6.cell 12
            have k13 : WA.cell? ⟨g6, 13, none⟩ = some (.int .i64 x.a.flag) := q6.cell 13
            have j3 : WA.cell? ⟨g6 + 1, 3, none⟩ = some (.int .u64 (x.a.s.parent : Nat)) := q7.cell 3
            have j4 : WA.cell? ⟨g6 + 1, 4, none⟩ = some (.string x.a.s.service) := q7.cell 4
            have j7 : WA.cell? ⟨g6 + 1, 7, none⟩ = some (.int .i64 x.a.s.start) := q7.cell 7
            have j8 : WA.cell? ⟨g6 + 1, 8, none⟩ = some (.int .i64 x.a.s.length) := q7.cell 8
            have m4 : WA.cell? ⟨g8, 4, none⟩ = some (.string p.s.service) := bk8.cell 4
            have m7 : WA.cell? ⟨g8, 7, none⟩ = some (.int .i64 p.s.start) := bk8.cell 7
            have m8 : WA.cell? ⟨g8, 8, none⟩ = some (.int .i64 p.s.length) := bk8.cell 8
            have m12 : WA.cell? ⟨g8, 12, none⟩ = some (.int .i64 p.shift) := bk8.cell 12
            have ene : ((x.a.up : Int) != (x.a.s.parent : Int)) = false := by rw [HP2.out]; simp
            have efl : (x.a.flag != 0) = false := by rw [HP.out.1]; rfl
            have hwp : IntKind.i64.wrap (p.s.start + p.s.length) = p.s.start + p.s.length := wrapSum HP.out.2.1 HP.out.2.2.2.1 HP.out.2.2.1
            have hS : ((x.a.s.service.toList == p.s.service.toList) = true ∧ (x.a.shift != p.shift) = false) ∨ ((x.a.s.service.toList == p.s.service.toList) = false ∧ decide (x.a.s.length ≤ p.s.length) = false) ∨
                ((x.a.s.service.toList == p.s.service.toList) = false ∧ decide (x.a.s.length ≤ p.s.length) = true ∧ decide (x.a.s.start < p.s.start) = false ∧ decide (p.s.start + p.s.length < x.a.s.start + x.a.s.length) = false) := by
              by_cases h1 : x.a.s.service = p.s.service
              · left; exact ⟨by rw [h1]; simp, by rw [HP.out.2.2.2.2.2 h1]; simp⟩
              · right
                have h1' : (x.a.s.service.toList == p.s.service.toList) = false := by rw [strEq_of', decide_eq_false h1]
                by_cases h2 : x.a.s.length ≤ p.s.length
                · right
                  have h3 := HP.out.2.2.2.2.1 h1 h2
                  exact ⟨h1', decide_eq_true h2, decide_eq_false (Int.not_lt.2 h3.1), decide_eq_false (Int.not_lt.2 h3.2)⟩
                · left; exact ⟨h1', decide_eq_false h2⟩
            clear q6 q7 bk8
            go_upto_region 19 with fail
            rw [EA.out, HG8.out]
            go_upto_region 21 with fail
            go_cut [10] from 108 to 118 (fun v W => (∃ cb, v = .bool cb) ∧ W = WA)
            case first =>
              have hC : ((x.a.s.start == 0) = true) ∨ ((x.a.s.start == 0) = false) := by
                cases h1 : (x.a.s.start == 0) with
                | true => exact .inl rfl
                | false => exact .inr rfl
              rcases hC with t1 | t1
              all_goals
                go_wp2
                go_meet
                exact ⟨⟨_, rfl⟩, rfl⟩
            case rest =>
              obtain ⟨⟨cb, rfl⟩, rfl⟩ := hcut
              rcases hS with ⟨s1, s2⟩ | ⟨s1, s2⟩ | ⟨s1, s2, s3, s4⟩
              · go_wp2_with fail
                go_roundw
                case rel => exact ⟨i + 1, by omega, by go_num, HB8⟩
                case measure => simp [intOf]; omega
              · go_wp2_with fail
                go_roundw
                case rel => exact ⟨i + 1, by omega, by go_num, HB8⟩
                case measure => simp [intOf]; omega
              · cases cb with
                | true =>
                  go_wp2_with fail
                  go_roundw
                  case rel => exact ⟨i + 1, by omega, by go_num, HB8⟩
                  case measure => simp [intOf]; omega
                | false =>
                  go_wp2_with fail
                  go_roundw
                  case rel => exact ⟨i + 1, by omega, by go_num, HB8⟩
                  case measure => simp [intOf]; omega
      · have hltz : ¬ (i : Int) < (nn : Int) := by omega
        have hnz : (0 : Int) < (nn : Int) := by omega
        have hnzn : 0 < nn := by omega
        have HBF : Hid (Below w.heap.size w wr) := HB3.out.trans (HBW.out.mono HB3.out.size)
        go_wp2
        go_ret
        exact ⟨by first | rfl | (simp; omega), HBF.out⟩
end Go.Proofs.Ytchpekidnbdpdaa

/- The statement AdjustTree, out of its walk. -/
namespace Go.Proofs.Ytchpekidnbdpdaa
open Go.ChangeShapes Go.WideShapes Go.ChangeAt Go.RowKit
open Go.ChangeMaps (open_string shut_string)

set_option maxRecDepth 100000 in
theorem adjustTree_lifted (os : Os) (started : os.Started) (H : Type) (enc : TypeId × Value → H) :
    ReturnsInHanded {} Try.checked os 6 .any (Rows.adjustTreeSpec.pre6 enc Try.prog Try.f6 Rows.adjustTreeRow.domain false) (Rows.adjustTreeSpec.post enc Try.prog Try.f6 false true false false) := by
  refine returnsInHanded_of_change (C := Try.checked) ownKnob_none started (by kernel_rfl) Try.func6
    (ChangeSpec.witness6 (enc := enc) (C := Try.checked) false ⟨#[], #[.slice none 0 0], []⟩ 8 (by kernel_rfl) (by kernel_rfl) (by kernel_rfl) (by kernel_rfl)) ?_
  intro W base args ds gs before hval0 hW _ _
  have hval : ∀ (j : Nat) t v, Try.f6.params[j]? = some t → args[j]? = some v → Value.okWide Try.prog W .any base t v := hval0
  have hW' := hW
  obtain ⟨p, q, hA0, hV, rfl, hfz, hnd⟩ := hW
  have hA : DataW.TrodAll enc Try.prog W 0 (fun _ => true) true Try.f6.params.toList args.toList ds p := hA0
  rw [Try.params6] at hA hval
  obtain ⟨v0, vs0, d0, ds0, p0, q0, hargs, rfl, rfl, h0, r0⟩ := trodAll_cons hA
  obtain ⟨rfl, rfl, rfl⟩ := trodAll_nil r0
  obtain rfl : args = #[v0] := by cases args; simp_all
  obtain ⟨rfl, rfl⟩ := trodVars_none hV
  obtain ⟨u0_0, u0_1, u0_2, u0_3, he0, w0⟩ := open_inSs (hval 0 34 v0 rfl rfl) h0
  subst he0
  have k0 := h0
  have lt0 : ∀ x ∈ p0, x.block < W.heap.size := by obtain ⟨m, hm⟩ := k0; exact DataW.trod_lt m _ _ _ hm
  clear hA0 hval0
  refine (adjustTree_walk u0_0 u0_1 u0_2 u0_3 W w0).mono fun e W' ⟨he, bel⟩ => ?_
  subst he
  exact ⟨_, rfl, _, _, _, [], _, [], hW', trodAll_mk1 (shut_bool Try.underlying4 _), (trodAll_cons_mk (Below.trod laidOut (by kernel_rfl) (of_decide_eq_true (by kernel_rfl)) k0 bel lt0) trodAll_mk0), rfl, bel.frame _, fun h => by cases h⟩

/-- AdjustTree: for every input the law returns true, and what came in reads as it did. -/
theorem adjustTree_holds : Rows.AdjustTreeSaid :=
  OpenClaim.holds_of_wide 6 Try.f6 rfl rfl rfl rfl rfl rfl rfl ⟨rfl, rfl, rfl, rfl, rfl⟩ rfl rfl rfl rfl rfl (by kernel_rfl) Try.func6 (by kernel_rfl)
    (of_decide_eq_true (by kernel_rfl)) (by unfold Func.isWrapper; first | (rw [if_pos (by decide +kernel)]; kernel_rfl) | (rw [if_neg (by decide +kernel)]; exact ⟨rfl, rfl⟩))
    (fun os started H enc _ => adjustTree_lifted os started H enc)
#print axioms adjustTree_holds
end Go.Proofs.Ytchpekidnbdpdaa
