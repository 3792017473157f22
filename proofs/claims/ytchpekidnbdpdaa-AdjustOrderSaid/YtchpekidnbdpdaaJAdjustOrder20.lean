/- Texts of the proof of AdjustOrderSaid, joined: AdjustCalls AdjustOrder AdjustOrderP. -/
import Derived.Test.YtchpekidnbdpdaaJAdjustOrder19
import Derived.Test.YtchpekidnbdpdaaJAdjustOrder12
import Derived.Test.YtchpekidnbdpdaaJAdjustOrder8
import Derived.Test.YtchpekidnbdpdaaJAdjustOrder9
import Derived.Test.YtchpekidnbdpdaaJAdjustOrder15
/- The statement AdjustCalls: any spans are made unique, put under one another and adjusted as the document says. The walk. -/
namespace Go.Proofs.Ytchpekidnbdpdaa
open Go.RowKit
theorem small_na {e : El} (h : smallB e.s 200 = true) (hl : e.s.tags.length = e.n) : e.n ≤ 1000000 := by
  simp only [smallB, Bool.and_eq_true, decide_eq_true_eq] at h
  have := h.1.2
  omega
theorem uniq_u64 {l : List El} (h : ∀ e ∈ l, e.s.U64) : ∀ s ∈ uniq (sps l), s.U64 := fun s hs => by
  have h1 := uniqTo_mem _ _ s hs
  unfold sps at h1
  obtain ⟨e, he, rfl⟩ := List.mem_map.1 h1
  exact h e he
set_option maxRecDepth 100000 in
set_option maxHeartbeats 8000000 in
theorem adjustCalls_walk (A : Option Addr) (n c : Nat) (l : List El) (w : World) (h : InSs w A n c l) :
    Calls Try.prog 4 #[.slice A n c] w fun e w' => e = .returned (.bool true) ∧ Below w.heap.size w w' := by
  have hnm : n ≤ 9223372036854775807 := by have h1 := h.cap; have h2 := h.max; simp only [maxLen] at h2; omega
  have HH : Aside _ := h
  clear h
  go_enter Try.func4, Try.ntmps4
  go_wp2_with fail
  refine (ajLives w).mono ?_
  rintro e w1 ⟨rfl, hb1⟩
  have HB1 := Lib.hid hb1
  clear hb1
  have HSM := Lib.hid (kitSmalls (c := c) 70 200 w1 (HH.out.rd.below HB1.out) HH.out.len HB1.out.size hnm (by omega))
  go_wp2_with fail
  refine HSM.out.mono ?_
  rintro e w2 ⟨q, rfl, hb2, hq⟩
  have HB2 : Hid (Below w.heap.size w w2) := HB1.out.trans (hb2.mono HB1.out.size)
  clear hb2 HSM HB1
  cases q with
  | false =>
    clear hq
    go_wp2
    go_ret
    exact ⟨rfl, HB2.out⟩
  | true =>
    obtain ⟨hq1, hq2⟩ := hq rfl
    have hn : n ≤ 70 := by have := HH.out.len; omega
    have hsm : Hid (∀ e ∈ l, e.n ≤ 1000000) := Lib.hid fun e he => small_na (hq2 e he) (HH.out.rd.ok e he).len
    clear hq hq1 hq2
    obtain ⟨rr, hrr⟩ : ∃ rr, adjS (sps l) = rr := ⟨_, rfl⟩
    have C1 := Lib.hid (ajAdjust (c := c) w2 (HH.out.rd.below HB2.out) HH.out.len HB2.out.size (by omega) hsm.out HH.out.u64)
    rw [hrr] at C1
    go_wp2_with fail
    refine C1.out.mono ?_
    rintro e w3 ⟨A3, c3, l3, rfl, hl3, hr3, hb3, -⟩
    have HB3 : Hid (Below w.heap.size w w3) := HB2.out.trans (hb3.mono HB2.out.size)
    have HR3 := Lib.hid hr3
    have HL3 := Lib.hid hl3
    clear hb3 hr3 hl3 C1 HB2
    have C2 := Lib.hid (raAdjust (c := c) l w3 (HH.out.rd.below HB3.out) HH.out.len HB3.out.size (by omega) HH.out.u64)
    rw [hrr] at C2
    go_wp2_with fail
    refine C2.out.mono ?_
    rintro e w4 ⟨A4, c4, l4, rfl, hl4, hr4, hb4, -⟩
    have HB4 : Hid (Below w.heap.size w w4) := HB3.out.trans (hb4.mono HB3.out.size)
    have HR4 := Lib.hid hr4
    have HR34 : Hid (RbA w4 w4.heap.size A3 l3) := HR3.out.bS hb4
    have HL4 := Lib.hid hl4
    clear hb4 hr4 hl4 C2 HB3 HR3
    have C3 := Lib.hid (ajUnique (c := c) w4 (HH.out.rd.below HB4.out) HH.out.len HB4.out.size (by omega) hsm.out)
    go_wp2_with fail
    refine C3.out.mono ?_
    rintro e w5 ⟨A5, c5, n5, l5, rfl, hl5, hr5, hb5⟩
    have HB45 := Lib.hid hb5
    have HB5 : Hid (Below w.heap.size w w5) := HB4.out.trans (hb5.mono HB4.out.size)
    have HR5 : Hid (RbS w5 w5.heap.size A5 l5) := hr5.rbs
    have HN5 := Lib.hid hr5.len
    have HL5 := Lib.hid hl5
    clear hb5 hr5 hl5 C3
    have C4 := Lib.hid (raUnique (c := c) w5 (HH.out.rd.below HB5.out) HH.out.len HB5.out.size (by omega) hsm.out)
    go_wp2_with fail
    refine C4.out.mono ?_
    rintro e w6 ⟨A6, c6, n6, l6, rfl, hl6, hr6, hb6⟩
    have HB46 : Hid (Below w4.heap.size w4 w6) := HB45.out.trans (hb6.mono HB45.out.size)
    have HB6 : Hid (Below w.heap.size w w6) := HB5.out.trans (hb6.mono HB5.out.size)
    have HR6 : Hid (RbS w6 w6.heap.size A6 l6) := hr6.rbs
    have HR56 : Hid (RbS w6 w6.heap.size A5 l5) := HR5.out.bS hb6
    have HN6 := Lib.hid hr6.len
    have HL6 := Lib.hid hl6
    have hul := uniqTo_len (sps l) (sps l).length
    have hn5 : n5 ≤ 100 := by
      rw [← HN5.out, ← sps_length, HL5.out]
      rw [sps_length, HH.out.len] at hul
      unfold uniq
      rw [sps_length, HH.out.len]
      omega
    have hn6 : n6 ≤ 100 := by
      rw [← HN6.out, ← sps_length, HL6.out]
      rw [sps_length, HH.out.len] at hul
      unfold uniq
      rw [sps_length, HH.out.len]
      omega
    clear hb6 hr6 hl6 C4 HB45 HB5 HR5 hul
    have C5 := kitSames (c1 := c5) (c2 := c6) w6 HR56.out HR6.out HN5.out HN6.out (Nat.le_refl _) (by omega) (by omega)
    rw [show decide (sps l5 = sps l6) = true from decide_eq_true (by rw [HL5.out, HL6.out])] at C5
    have C5 := Lib.hid C5
    go_wp2_with fail
    refine C5.out.mono ?_
    rintro e w7 ⟨rfl, hb7⟩
    have HB47 : Hid (Below w4.heap.size w4 w7) := HB46.out.trans (hb7.mono HB46.out.size)
    have HB7 : Hid (Below w.heap.size w w7) := HB6.out.trans (hb7.mono HB6.out.size)
    clear hb7 C5 HB46 HB6 HR56 HR6 HN5 HN6 HL5 HL6
    have C6 := Lib.hid (ajUp (c := c) w7 (HH.out.rd.below HB7.out) HH.out.len HB7.out.size (by omega) hsm.out (uniq_u64 HH.out.u64))
    go_wp2_with fail
    refine C6.out.mono ?_
    rintro e w8 ⟨A8, c8, n8, l8, rfl, hl8, hr8, hb8⟩
    have HB48 : Hid (Below w4.heap.size w4 w8) := HB47.out.trans (hb8.mono HB47.out.size)
    have HB8 : Hid (Below w.heap.size w w8) := HB7.out.trans (hb8.mono HB7.out.size)
    have HR8 : Hid (RbA w8 w8.heap.size A8 l8) := hr8.rba
    have HN8 := Lib.hid hr8.len
    have HL8 := Lib.hid hl8
    clear hb8 hr8 hl8 C6 HB47 HB7
    have C7 := Lib.hid (raUp (c := c) w8 (HH.out.rd.below HB8.out) HH.out.len HB8.out.size (by omega) hsm.out (uniq_u64 HH.out.u64))
    go_wp2_with fail
    refine C7.out.mono ?_
    rintro e w9 ⟨A9, c9, n9, l9, rfl, hl9, hr9, hb9⟩
    have HB49 : Hid (Below w4.heap.size w4 w9) := HB48.out.trans (hb9.mono HB48.out.size)
    have HB9 : Hid (Below w.heap.size w w9) := HB8.out.trans (hb9.mono HB8.out.size)
    have HR9 : Hid (RbA w9 w9.heap.size A9 l9) := hr9.rba
    have HR89 : Hid (RbA w9 w9.heap.size A8 l8) := HR8.out.bS hb9
    have HN9 := Lib.hid hr9.len
    have HL9 := Lib.hid hl9
    have hn8 : n8 ≤ 1000000 := by
      have h1 := ups_len (sps l)
      have hul := uniqTo_len (sps l) (sps l).length
      rw [← HN8.out, ← List.length_map (f := (·.a)), HL8.out, h1]
      rw [sps_length, HH.out.len] at hul
      unfold uniq
      rw [sps_length, HH.out.len]
      omega
    clear hb9 hr9 hl9 C7 HB48 HB8 HR8
    have C8 := kitSameAds (c1 := c8) (c2 := c9) w9 HR89.out HR9.out HN8.out HN9.out (Nat.le_refl _) hn8
    rw [show decide (l8.map (·.a) = l9.map (·.a)) = true from decide_eq_true (by rw [HL8.out, HL9.out])] at C8
    have C8 := Lib.hid C8
    go_wp2_with fail
    refine C8.out.mono ?_
    rintro e w10 ⟨rfl, hb10⟩
    have HB410 : Hid (Below w4.heap.size w4 w10) := HB49.out.trans (hb10.mono HB49.out.size)
    have HB10 : Hid (Below w.heap.size w w10) := HB9.out.trans (hb10.mono HB9.out.size)
    clear hb10 C8 HB49 HB9 HR89 HR9 HN8 HN9 HL8 HL9
    have hr64 : rr.1.length ≤ 1000000 := by
      have h3 := HR34.out
      have h1 : rr.1.length ≤ 64 := by
        rw [← hrr]
        by_cases e0 : (adjS (sps l)).2 = 0
        · obtain ⟨-, e2, -, -, e5⟩ := adjS_ok e0
          rw [e5, fins_len, ups_len]
          have hul := uniqTo_len (sps l) (sps l).length
          unfold uniq
          omega
        · rw [adjS_bad e0]
          exact Nat.zero_le _
      omega
    have C9 := kitSameAds (c1 := c3) (c2 := c4) w10 (HR34.out.below HB410.out) (HR4.out.below HB410.out) (n := rr.1.length) (m := rr.1.length) (by rw [← HL3.out, List.length_map]) (by rw [← HL4.out, List.length_map]) HB410.out.size hr64
    rw [show decide (l3.map (·.a) = l4.map (·.a)) = true from decide_eq_true (by rw [HL3.out, HL4.out])] at C9
    have C9 := Lib.hid C9
    clear hrr
    go_wp2_with fail
    refine C9.out.mono ?_
    rintro e w11 ⟨rfl, hb11⟩
    have HB11 : Hid (Below w.heap.size w w11) := HB10.out.trans (hb11.mono HB10.out.size)
    clear hb11 C9
    go_wp2
    go_ret
    exact ⟨rfl, HB11.out⟩
end Go.Proofs.Ytchpekidnbdpdaa

/- The statement AdjustOrder: what is adjusted does not depend on the order of spans, nor on spans that come again. The walk. -/
namespace Go.Proofs.Ytchpekidnbdpdaa
open Go.RowKit
attribute [local go_sem ↓] loadSp_shutU
/-- The longer list as it grows. -/
structure MoA (w wr : World) (base : Nat) (A : Option Addr) (k c : Nat) (lm l : List El) : Prop where
  row : RowS wr base (.slice A k c) k lm
  mem : ∀ x, x ∈ sps lm ↔ x ∈ sps l
  sm : ∀ e ∈ lm, e.n ≤ 1000000
  bel : Below w.heap.size w wr
  lo : w.heap.size ≤ base
  hi : base ≤ wr.heap.size
theorem MoA.step {w wr w' : World} {base k c c' : Nat} {A A' Ax : Option Addr} {lm l : List El} {x : El} (h : MoA w wr base A k c lm l) (hl : RbS w w.heap.size Ax l) (hx : x ∈ l) (hn : x.n ≤ 1000000)
    (hap : App base 32 11 (wr.alloc (.cells (spC x.s x.A x.n x.c) 32)) (.slice A k c) w' (.slice A' (k + 1) c') (k + 1) (els (lm ++ [x]))) : MoA w w' base A' (k + 1) c' (lm ++ [x]) l := by
  have hb1 : Below w.heap.size w (wr.alloc (.cells (spC x.s x.A x.n x.c) 32)) := h.bel.alloc h.bel.size _
  have hr1 := h.row.bS ((Below.refl _ wr).alloc (Nat.le_refl _) (.cells (spC x.s x.A x.n x.c) 32))
  have hs1 : wr.heap.size ≤ (wr.alloc (.cells (spC x.s x.A x.n x.c) 32)).heap.size := by simp
  refine ⟨hr1.app (es := [x]) hap (fun e he => ?_) (fun e he ht a ha e1 => ?_), fun y => ?_, fun e he => ?_, ?_, h.lo, Nat.le_trans h.hi (Nat.le_trans hs1 hap.grown.size)⟩
  · rw [List.mem_singleton.1 he]
    exact ((hl.ok x hx).below hb1).more hb1.size
  · rw [List.mem_singleton.1 he] at ht ha
    obtain ⟨b, o, e2, h2, -⟩ := (hl.ok x hx).rd (by intro e0; have := tgs_length x.s.tags; rw [e0] at this; exact ht (List.eq_nil_of_length_eq_zero (by simp at this; omega)))
    rw [ha] at e2
    cases e2
    have h3 := (hr1.own_lt _ e1).2
    have h4 := h.lo
    simp only at h3
    omega
  · rw [sps_append, List.mem_append, h.mem]
    constructor
    · rintro (h1 | h1)
      · exact h1
      · simp only [sps, List.map_cons, List.map_nil, List.mem_singleton] at h1
        subst h1
        exact List.mem_map_of_mem hx
    · exact .inl
  · rcases List.mem_append.1 he with he | he
    · exact h.sm e he
    · rw [List.mem_singleton.1 he]; exact hn
  · exact hb1.trans ⟨hap.grown.os, hap.grown.tape, hap.grown.output, hap.grown.size, fun i hi => hap.grown.block i (by have := hb1.size; omega) (fun e => by have h3 := (hr1.own_lt _ e.symm).2; have h4 := h.lo; omega)⟩
set_option maxRecDepth 100000 in
set_option maxHeartbeats 8000000 in
theorem adjustOrder_walk (A : Option Addr) (n c : Nat) (l : List El) (AP : Option Addr) (m cp : Nat) (ps : List Int) (w : World) (h : InSs w A n c l) (hp : InI w AP m cp ps) :
    Calls Try.prog 5 #[.slice A n c, .slice AP m cp] w fun e w' => e = .returned (.bool true) ∧ Below w.heap.size w w' := by
  have hnm : n ≤ 9223372036854775807 := by have h1 := h.cap; have h2 := h.max; simp only [maxLen] at h2; omega
  have hmm : m ≤ 9223372036854775807 := by have h1 := hp.cap; have h2 := hp.max; simp only [maxLen] at h2; omega
  have HH : Aside _ := h
  have HP : Aside _ := hp
  clear h hp
  go_enter Try.func5, Try.ntmps5
  go_wp2_with fail
  refine (ajLives w).mono ?_
  rintro e w1 ⟨rfl, hb1⟩
  have HB1 := Lib.hid hb1
  clear hb1
  have HSM := Lib.hid (kitSmalls (c := c) 32 200 w1 (HH.out.rd.below HB1.out) HH.out.len HB1.out.size hnm (by omega))
  go_wp2_with fail
  refine HSM.out.mono ?_
  rintro e w2 ⟨q, rfl, hb2, hq⟩
  have HB2 : Hid (Below w.heap.size w w2) := HB1.out.trans (hb2.mono HB1.out.size)
  clear hb2 HSM HB1
  cases q with
  | false =>
    clear hq
    go_wp2
    go_ret
    exact ⟨rfl, HB2.out⟩
  | true =>
    obtain ⟨hq1, hq2⟩ := hq rfl
    have hn : n ≤ 32 := by have := HH.out.len; omega
    have hsm : Hid (∀ e ∈ l, e.n ≤ 1000000) := Lib.hid fun e he => small_na (hq2 e he) (HH.out.rd.ok e he).len
    clear hq hq1 hq2
    obtain ⟨rr, hrr⟩ : ∃ rr, adjS (sps l) = rr := ⟨_, rfl⟩
    have C1 := Lib.hid (ajAdjust (c := c) w2 (HH.out.rd.below HB2.out) HH.out.len HB2.out.size (by omega) hsm.out HH.out.u64)
    rw [hrr] at C1
    go_wp2_with fail
    refine C1.out.mono ?_
    rintro e w3 ⟨A3, c3, l3, rfl, hl3, hr3, hb3, -⟩
    have HB3 : Hid (Below w.heap.size w w3) := HB2.out.trans (hb3.mono HB2.out.size)
    have HR3 := Lib.hid hr3
    have HL3 := Lib.hid hl3
    have HRR := Lib.hid hrr
    clear hb3 hr3 hl3 C1 HB2 hrr
    have C2 := Lib.hid (kitShuf (c := c) (cp := cp) w3 (HH.out.rd.below HB3.out) HH.out.len HB3.out.size (by omega) hsm.out (Rd.below HP.out.rd HB3.out) HP.out.len hmm)
    go_wp2_with fail
    refine C2.out.mono ?_
    rintro e w4 ⟨A4, c4, l4, rfl, hpm, hs4, hr4, hb4⟩
    have M4 : Hid (MoA w w4 w3.heap.size A4 (n + 0) c4 l4 l) := Lib.hid ⟨hr4, fun x => hpm.mem_iff, hs4, HB3.out.trans (hb4.mono HB3.out.size), HB3.out.size, hb4.size⟩
    have HB34 : Hid (Below w3.heap.size w3 w4) := hb4
    have hn0 : n = n + 0 := rfl
    rw [hn0]
    clear hpm hs4 hr4 hb4 C2 hn0
    obtain ⟨base, hbase⟩ : ∃ base, w3.heap.size = base := ⟨_, rfl⟩
    rw [hbase] at M4
    have HBASE := Lib.hid hbase
    clear hbase
    go_wp2_with fail
    go_loopw [7, 8] (fun mv iv_ wr => ∃ (i : Nat) (Am : Option Addr) (cm : Nat) (lm : List El), i ≤ m ∧ i ≤ n ∧ iv_ = .int .i64 (i : Nat) ∧ mv = .slice Am (n + i) cm ∧ Hid (MoA w wr base Am (n + i) cm lm l) ∧ Hid (Below w3.heap.size w3 wr)) (fun _ i _ => m - (intOf i).toNat)
    case atStart => exact ⟨0, A4, c4, l4, by omega, by omega, rfl, rfl, M4, HB34⟩
    case round =>
      obtain ⟨i, Am, cm, lm, him, hin, rfl, rfl, M, HBW⟩ := hrel
      clear M4
      by_cases h1 : i < m ∧ i < n
      · obtain ⟨h1, h2⟩ := h1
        have h1z : (i : Int) < (m : Int) := by omega
        have h2z : (i : Int) < (n : Int) := by omega
        obtain ⟨b, o, z, -, hAP, -, hcz⟩ := Ri.get (k := i) (Rd.below HP.out.rd M.out.bel) (by rw [HP.out.len]; exact h1)
        subst hAP
        have hz0 : ¬ (n : Int) = 0 := by omega
        have hz1 := Int.emod_nonneg z hz0
        have hz2 := Int.emod_lt_of_pos z (show (0 : Int) < (n : Int) by omega)
        obtain ⟨p, hp'⟩ : ∃ p : Nat, z % (n : Int) = (p : Int) := ⟨(z % (n : Int)).toNat, by omega⟩
        have hpk := fun W => kitPick z n W (by omega) (by omega)
        rw [hp'] at hpk hz1 hz2
        have hpn : p < n := by omega
        have hpn' : (p : Int) < (n : Int) := by omega
        obtain ⟨x, hx⟩ : ∃ x, l[p]? = some x := ⟨_, List.getElem?_eq_getElem (by rw [HH.out.len]; exact hpn)⟩
        obtain ⟨b2, o2, hA2, -, hc2, -⟩ := (HH.out.rd.below M.out.bel).get hx
        subst hA2
        have hld := loadK_el hc2
        have HX := Lib.hid (List.mem_of_getElem? hx)
        have HXN := Lib.hid (hsm.out x (List.mem_of_getElem? hx))
        have HPK := Lib.hid hpk
        have HROW : Hid (RowS (wr.alloc (.cells (spC x.s x.A x.n x.c) 32)) base (.slice Am (n + i) cm) (n + i) lm) := Lib.hid (M.out.row.bS ((Below.refl _ wr).alloc (Nat.le_refl _) _))
        have HNEW : Hid (Rd (wr.alloc (.cells (spC x.s x.A x.n x.c) 32)) (wr.heap.size + 1) (some ⟨wr.heap.size, 0, none⟩) (els [x])) := Lib.hid (rd_span rfl x)
        clear hpk hp' hz1 hz2 hc2 hx
        go_wp2_with (first
          | (go_at_call 20; refine (HPK.out _).mono ?_; rintro en w' ⟨rfl, rfl⟩)
          | (at_builtin; go_loud (refine wpList_appS _ rfl (.tmp 36) (.tmp 47) rfl base _ (n + i) lm rfl HROW.out.own _ _ 1 1 [x] rfl rfl HNEW.out (by omega) (by rw [World.size_alloc]; have := M.out.hi; omega) ?_)))
        intro A5 c5 w5 hap _
        have M5 : Hid (MoA w w5 base A5 (n + (i + 1)) c5 (lm ++ [x]) l) := Lib.hid (M.out.step HH.out.rd HX.out HXN.out hap)
        have HBW5 : Hid (Below w3.heap.size w3 w5) := by
          have h1 := HBW.out.alloc HBW.out.size (.cells (spC x.s x.A x.n x.c) 32)
          exact h1.trans ⟨hap.grown.os, hap.grown.tape, hap.grown.output, hap.grown.size, fun j hj => hap.grown.block j (Nat.lt_of_lt_of_le hj h1.size) (fun e => by have h3 := (HROW.out.own_lt _ e.symm).2; have h4 := HBASE.out; omega)⟩
        clear hap HROW HNEW hld
        go_wp2_with fail
        go_roundw
        case rel => exact ⟨i + 1, A5, c5, lm ++ [x], by omega, by omega, by go_num, rfl, M5, HBW5⟩
        case measure => simp [intOf]; omega
      · have hX : ((i : Int) < (m : Int)) = True ∧ ((i : Int) < (n : Int)) = False ∨ ((i : Int) < (m : Int)) = False := by
          by_cases h2 : i < m
          · left; exact ⟨by simp; omega, by simp; omega⟩
          · right; simp; omega
        have hu : ∀ e ∈ lm, e.s.U64 := fun e he => by
          have h2 := (M.out.mem e.s).1 (List.mem_map_of_mem he)
          unfold sps at h2
          obtain ⟨e', he', e2⟩ := List.mem_map.1 h2
          rw [← e2]
          exact HH.out.u64 e' he'
        obtain ⟨rr2, hrr2⟩ : ∃ rr2, adjS (sps lm) = rr2 := ⟨_, rfl⟩
        have hsame := adjS_same (l := sps l) (l' := sps lm) (fun x => (M.out.mem x).symm) (by rw [sps_length, HH.out.len]; omega) (by rw [sps_length, M.out.row.len]; omega)
        rw [HRR.out, hrr2] at hsame
        have C3 := Lib.hid (ajAdjust (c := cm) wr M.out.row.rbs M.out.row.len (Nat.le_refl _) (by omega) M.out.sm hu)
        rw [hrr2] at C3
        have HSAME := Lib.hid hsame
        have HR3w : Hid (RbA wr wr.heap.size A3 l3) := Lib.hid (HR3.out.bS HBW.out)
        have hkn : n + i ≤ 64 := by omega
        clear hu hrr2 hsame
        have hgo : ∀ {P : Prop}, P → P := fun h => h
        rcases hX with ⟨hx1, hx2⟩ | hx1
        all_goals
          go_wp2_with fail
          refine C3.out.mono ?_
          rintro e w6 ⟨A6, c6, l6, rfl, hl6, hr6, hb6, -⟩
          have HB6 : Hid (Below w.heap.size w w6) := M.out.bel.trans (hb6.mono M.out.bel.size)
          have HR6 := Lib.hid hr6
          have HL6 := Lib.hid hl6
          have HR36 : Hid (RbA w6 w6.heap.size A3 l3) := Lib.hid (HR3w.out.bS hb6)
          clear hb6 hr6 hl6 C3
          by_cases hr0 : rr.2 = 0
          · have he := HSAME.out.2 hr0
            have HE := Lib.hid he
            have hr0' : ((rr.2 : Int) != 0) = false := by rw [hr0]; rfl
            have hr2' : ((rr2.2 : Int) != 0) = false := by rw [← he, hr0]; rfl
            have hlen : rr.1.length ≤ 1000000 := by
              have e0 : (adjS (sps l)).2 = 0 := by rw [HRR.out]; exact hr0
              obtain ⟨-, e2, -, -, e5⟩ := adjS_ok e0
              rw [← HRR.out, e5, fins_len, ups_len]
              have hul := uniqTo_len (sps l) (sps l).length
              unfold uniq
              omega
            have C4 := kitSameAds (c1 := c3) (c2 := c6) w6 HR36.out HR6.out (n := rr.1.length) (m := rr2.1.length) (by rw [← HL3.out, List.length_map]) (by rw [← HL6.out, List.length_map]) (Nat.le_refl _) hlen
            rw [show decide (l3.map (·.a) = l6.map (·.a)) = true from decide_eq_true (by rw [HL3.out, HL6.out, HE.out])] at C4
            have C4 := Lib.hid C4
            clear he hr0 hlen
            go_wp2_with fail
            refine C4.out.mono ?_
            rintro e w7 ⟨rfl, hb7⟩
            have HB7 : Hid (Below w.heap.size w w7) := HB6.out.trans (hb7.mono HB6.out.size)
            clear hb7 C4
            go_wp2
            go_ret
            exact ⟨rfl, HB7.out⟩
          · have hr2 : ¬ rr2.2 = 0 := fun e => hr0 (HSAME.out.1.2 e)
            have hr0' : ((rr.2 : Int) != 0) = true := by rw [bne_iff_ne]; omega
            have hr0b : ((rr.2 : Int) == 0) = false := by rw [beq_eq_false_iff_ne]; omega
            have hr2b : ((rr2.2 : Int) == 0) = false := by rw [beq_eq_false_iff_ne]; omega
            clear hr0 hr2
            go_wp2
            go_ret
            exact ⟨rfl, HB6.out⟩
end Go.Proofs.Ytchpekidnbdpdaa

/- The statement AdjustOrder, out of its walk. -/
namespace Go.Proofs.Ytchpekidnbdpdaa
open Go.ChangeShapes Go.WideShapes Go.ChangeAt Go.RowKit
open Go.ChangeMaps (open_string shut_string)

set_option maxRecDepth 100000 in
theorem adjustOrder_lifted (os : Os) (started : os.Started) (H : Type) (enc : TypeId × Value → H) :
    ReturnsInHanded {} Try.checked os 5 .any (Rows.adjustOrderSpec.pre6 enc Try.prog Try.f5 Rows.adjustOrderRow.domain false) (Rows.adjustOrderSpec.post enc Try.prog Try.f5 false true false false) := by
  refine returnsInHanded_of_change (C := Try.checked) ownKnob_none started (by kernel_rfl) Try.func5
    (ChangeSpec.witness6 (enc := enc) (C := Try.checked) false ⟨#[], #[.slice none 0 0, .slice none 0 0], []⟩ 8 (by kernel_rfl) (by kernel_rfl) (by kernel_rfl) (by kernel_rfl)) ?_
  intro W base args ds gs before hval0 hW _ _
  have hval : ∀ (j : Nat) t v, Try.f5.params[j]? = some t → args[j]? = some v → Value.okWide Try.prog W .any base t v := hval0
  have hW' := hW
  obtain ⟨p, q, hA0, hV, rfl, hfz, hnd⟩ := hW
  have hA : DataW.TrodAll enc Try.prog W 0 (fun _ => true) true Try.f5.params.toList args.toList ds p := hA0
  rw [Try.params5] at hA hval
  obtain ⟨v0, vs0, d0, ds0, p0, q0, hargs, rfl, rfl, h0, r0⟩ := trodAll_cons hA
  obtain ⟨v1, vs1, d1, ds1, p1, q1, rfl, rfl, rfl, h1, r1⟩ := trodAll_cons r0
  obtain ⟨rfl, rfl, rfl⟩ := trodAll_nil r1
  obtain rfl : args = #[v0, v1] := by cases args; simp_all
  obtain ⟨rfl, rfl⟩ := trodVars_none hV
  obtain ⟨u0_0, u0_1, u0_2, u0_3, he0, w0⟩ := open_inSs (hval 0 34 v0 rfl rfl) h0
  subst he0
  have k0 := h0
  have lt0 : ∀ x ∈ p0, x.block < W.heap.size := by obtain ⟨m, hm⟩ := k0; exact DataW.trod_lt m _ _ _ hm
  obtain ⟨u1_0, u1_1, u1_2, u1_3, he1, w1⟩ := open_inIs (hval 1 42 v1 rfl rfl) h1
  subst he1
  have k1 := h1
  have lt1 : ∀ x ∈ p1, x.block < W.heap.size := by obtain ⟨m, hm⟩ := k1; exact DataW.trod_lt m _ _ _ hm
  clear hA0 hval0
  refine (adjustOrder_walk u0_0 u0_1 u0_2 u0_3 u1_0 u1_1 u1_2 u1_3 W w0 w1).mono fun e W' ⟨he, bel⟩ => ?_
  subst he
  exact ⟨_, rfl, _, _, _, [], _, [], hW', trodAll_mk1 (shut_bool Try.underlying4 _), (trodAll_cons_mk (Below.trod laidOut (by kernel_rfl) (of_decide_eq_true (by kernel_rfl)) k0 bel lt0) (trodAll_cons_mk (Below.trod laidOut (by kernel_rfl) (of_decide_eq_true (by kernel_rfl)) k1 bel lt1) trodAll_mk0)), rfl, bel.frame _, fun h => by cases h⟩

/-- AdjustOrder: for every input the law returns true, and what came in reads as it did. -/
theorem adjustOrder_holds : Rows.AdjustOrderSaid :=
  OpenClaim.holds_of_wide 5 Try.f5 rfl rfl rfl rfl rfl rfl rfl ⟨rfl, rfl, rfl, rfl, rfl⟩ rfl rfl rfl rfl rfl (by kernel_rfl) Try.func5 (by kernel_rfl)
    (of_decide_eq_true (by kernel_rfl)) (by unfold Func.isWrapper; first | (rw [if_pos (by decide +kernel)]; kernel_rfl) | (rw [if_neg (by decide +kernel)]; exact ⟨rfl, rfl⟩))
    (fun os started H enc _ => adjustOrder_lifted os started H enc)
#print axioms adjustOrder_holds
end Go.Proofs.Ytchpekidnbdpdaa
