/- The statement BlockSeeks: a block is looked through in few steps. The walk. -/
import Derived.Laws.OwnMore
import Derived.Test.YtleghbdkjdpilaaBkH
import Derived.Test.YtleghbdkjdpilaaBkL
import Derived.Test.YtleghbdkjdpilaaEnI
import Derived.Test.YtleghbdkjdpilaaPk
import Derived.Test.YtleghbdkjdpilaaRbR
namespace Go.Proofs.Ytleghbdkjdpilaa
open Go.RowKit
theorem loadEn_shutBs (a : Addr) : loadVar 29 a = loadK 29 a := rfl
attribute [local go_sem ↓] loadEn_shutBs

set_option maxRecDepth 100000 in
set_option maxHeartbeats 4000000 in
theorem blockSeeks_walk (A : Option Addr) (n c : Nat) (l : List BE) (wh : Int) (w : World) (h : InEs w A n c l) (_h1 : (Lit.int .i64 wh).wf = true) :
    Calls Try.prog 3 #[.slice A n c, .int .i64 wh] w fun e w' => e = .returned (.bool true) ∧ Below w.heap.size w w' := by
  have hnm : n ≤ 9223372036854775807 := by have h1 := h.cap; have h2 := h.max; simp only [maxLen] at h2; omega
  have HA := Lib.hid h
  clear h _h1
  go_enter Try.func3, Try.ntmps3
  go_upto_region 3 with (go_at_call 6; refine (lives_true _).mono ?_; rintro e w1 ⟨rfl, hb1⟩)
  by_cases hn2 : 200 < n
  · have hd : decide ((200 : Int) < (n : Int)) = true := by simp; omega
    have hd2 : (200 : Int) < (n : Int) := by omega
    go_wp2_with fail
    go_ret
    exact ⟨rfl, hb1⟩
  have hd2 : ¬ (200 : Int) < (n : Int) := by omega
  have hd : decide ((200 : Int) < (n : Int)) = false := by simp; omega
  have cw := kitWeigh (c := c) l w1 (HA.out.rd.below hb1) HA.out.len hb1.size (by omega) (fun e he => HA.out.wt e he)
  obtain ⟨q, hq⟩ : ∃ q, weigh (ens l) = q := ⟨_, rfl⟩
  rw [hq] at cw
  have HQ := Lib.hid hq
  have CW := Lib.hid cw
  clear cw hq
  go_upto_region 5 with (go_at_call 7; refine CW.out.mono ?_; rintro e w2 ⟨rfl, hb2⟩)
  · go_ret
    exact ⟨rfl, hb1.trans (hb2.mono hb1.size)⟩
  rename_i hq2
  have hb12 := hb1.trans (hb2.mono hb1.size)
  clear hb1 hb2 CW hd hd2
  go_wp2_with fail
  go_loopw [5, 6] (fun v iv_ wr => ∃ (i j c' : Nat) (A' : Option Addr) (il : List BE), i ≤ n ∧ iv_ = .int .i64 i ∧ v = .slice A' j c' ∧ j ≤ c' ∧ j ≤ i ∧ Hid (ens il = inTo (ens l) i ∧ il.length = j ∧ RbE wr wr.heap.size A' il) ∧ Below w.heap.size w wr) (fun _ i _ => n - (intOf i).toNat)
  case atStart => exact ⟨0, 0, 0, none, [], by omega, rfl, rfl, Nat.le_refl _, Nat.le_refl _, Lib.hid ⟨rfl, rfl, RbE.nil⟩, hb12⟩
  case round =>
    obtain ⟨i, j, c', A', il, hi, rfl, rfl, hjc, hji, HI, hbr⟩ := hrel
    by_cases hlt : i < n
    · have hlt' : (i : Int) < (n : Int) := by omega
      obtain ⟨a, ha⟩ : ∃ a, l[i]? = some a := ⟨_, List.getElem?_eq_getElem (by rw [HA.out.len]; exact hlt)⟩
      obtain ⟨b1, o1, e1, hb1, hc1, hok1⟩ := (HA.out.rd.below hbr).get ha
      subst e1
      have la := loadK_be hc1
      have hok1 := hok1.more hbr.size
      have hst := inTo_step (ens_get ha)
      obtain ⟨ck, hck⟩ : ∃ ck, enChk a.x = ck := ⟨_, rfl⟩
      have HST := Lib.hid hst
      have HCK := Lib.hid hck
      have HC1 := Lib.hid hc1
      have HB1 := Lib.hid hb1
      have HOK := Lib.hid hok1
      have hpt := rPut (c := c') il a wr HI.out.2.2 hok1 HI.out.2.1 hjc (by omega)
      obtain ⟨pl, hpl⟩ : ∃ pl, putE a il = pl := ⟨_, rfl⟩
      rw [hpl] at hpt
      have hpn : ens pl = putN a.x (inTo (ens l) i) := by rw [← hpl, ens_put, HI.out.1]
      have hplen : pl.length = j + 1 := by
        have h1 := congrArg List.length hpn
        rw [putN_len, ← HI.out.1] at h1
        simp only [ens, List.length_map] at h1
        rw [h1, HI.out.2.1]
      have HPN := Lib.hid hpn
      have HPL := Lib.hid hplen
      unfold RpPost at hpt
      rw [hplen] at hpt
      clear hpl hpn hplen hst hck hc1 hb1 hok1 ha
      go_wp2_with fail
      refine hpt.mono ?_
      rintro e w4 ⟨A4, c4, rfl, rb4, hb4, hc4⟩
      have hbr4 := hbr.trans (hb4.mono hbr.size)
      have hcx := rCheckEntry (A1 := a.A1) (c1 := a.c1) (A2 := a.A2) (c2 := a.c2) a.x w4 rfl rfl
      rw [HCK.out] at hcx
      have lb : (loadK 29 ⟨b1, o1 + i * 4, none⟩).run Try.prog w4 = .ok (beV a) w4 := loadK_be fun j hj => (hb4.cell (Nat.lt_of_lt_of_le HB1.out hbr.size)).trans (HC1.out j hj)
      clear hpt la
      by_cases h0 : ck = 0
      · subst h0
        have RB4 := Lib.hid rb4
        obtain ⟨rs, hrs⟩ : ∃ rs, risB (ens pl) = rs := ⟨_, rfl⟩
        have HRS := Lib.hid hrs
        have HRW : Hid (∀ W, Below w4.heap.size w4 W → Calls Try.prog 10 #[.slice A4 (j + 1) c4] W fun e w' => e = .returned (.bool rs) ∧ Below W.heap.size W w') := Lib.hid fun W hW => by
          have h := rRow (c := c4) pl W (RB4.out.bS hW) HPL.out (Nat.le_refl _) (by omega)
          rw [HRS.out] at h
          exact h
        clear rb4 hrs
        go_wp2_with fail
        refine hcx.mono ?_
        rintro e w5 ⟨rfl, hb5⟩
        go_wp2_with fail
        refine (HRW.out w5 hb5).mono ?_
        rintro e w6 ⟨rfl, hb6⟩
        have hb46 := hb5.trans (hb6.mono hb5.size)
        have hbr6 := hbr4.trans (hb46.mono hbr4.size)
        cases rs with
        | true =>
          go_wp2_with fail
          exact ⟨⟨i + 1, j + 1, c4, A4, pl, by omega, by go_num, rfl, hc4, by omega, Lib.hid ⟨by rw [HPN.out, HST.out, inStep, if_neg (by rw [HCK.out]; simp), if_pos (by rw [← HPN.out]; exact HRS.out)], HPL.out, RB4.out.bS hb46⟩, hbr6⟩, by simp only [intOf]; omega⟩
        | false =>
          go_wp2_with fail
          exact ⟨⟨i + 1, j, c', A', il, by omega, by go_num, rfl, hjc, by omega, Lib.hid ⟨by rw [HST.out, inStep, if_neg (by rw [HCK.out]; simp), if_neg (by rw [← HPN.out, HRS.out]; simp)]; exact HI.out.1, HI.out.2.1, (HI.out.2.2.bS hb4).bS hb46⟩, hbr6⟩, by simp only [intOf]; omega⟩
      · have h0' : ¬ (ck : Int) = 0 := by omega
        have h0'' : ((ck : Int) == 0) = false := by simpa using h0
        go_wp2_with fail
        refine hcx.mono ?_
        rintro e w5 ⟨rfl, hb5⟩
        have hbr5 := hbr4.trans (hb5.mono hbr4.size)
        go_wp2_with fail
        exact ⟨⟨i + 1, j, c', A', il, by omega, by go_num, rfl, hjc, by omega, Lib.hid ⟨by rw [HST.out, inStep, if_pos (by rw [HCK.out]; exact h0)]; exact HI.out.1, HI.out.2.1, (HI.out.2.2.bS hb4).bS hb5⟩, hbr5⟩, by simp only [intOf]; omega⟩
    · have hin : i = n := by omega
      have hlt' : decide ((i : Int) < (n : Int)) = false := by simp; omega
      subst hin
      have hie : inTo (ens l) i = ens il := HI.out.1.symm
      have hok : InOk (ens il) 200 q := by
        have h1 := inTo_le (l := ens l) (i := i) (by rw [ens, List.length_map, HA.out.len]; exact Nat.le_refl _)
        rw [hie, HQ.out] at h1
        exact ⟨h1.chk, h1.ris, by have := h1.len; omega, h1.wt⟩
      have hq20 : q ≤ 20000 := by omega
      have hj := HI.out.2.1
      have hjl : (ens il).length = j := by rw [ens, List.length_map, hj]
      have ca := blkAppendO (c := c') il wr HI.out.2.2 hj (Nat.le_refl _) (by omega)
      by_cases hj0 : j = 0
      · subst hj0
        have he : ens il = [] := List.eq_nil_of_length_eq_zero hjl
        rw [he, show blkOut [] = ([], 2) from blkOut_none rfl rfl] at ca
        go_wp2_with fail
        refine ca.mono ?_
        rintro e w3 ⟨A3, c3, rfl, hn3, -⟩
        have hbr3 := hbr.trans (hn3.bel.mono hbr.size)
        go_wp2_with fail
        go_ret
        exact ⟨rfl, hbr3⟩
      · have hne : ens il ≠ [] := fun e => by rw [e] at hjl; exact hj0 hjl.symm
        have hbo := blkOut_small hok hq20 hne
        have hsm := blk_small hok hq20
        have hbz : Byt (blk (ens il)) := blk_byt fun x hx => by
          obtain ⟨e, he, rfl⟩ := List.mem_map.1 hx
          exact ⟨(HI.out.2.2.ok e he).kb, (HI.out.2.2.ok e he).vb⟩
        have hsk : ∀ (k : Nat) (e : BE), il[k]? = some e → ∃ n, skOf (blk (ens il)) e.x.key e.x.seq = ⟨e.x, n, 0⟩ ∧ 1 ≤ n ∧ n ≤ 17 + hv ((j + 15) / 16) := fun k e hke => by
          have := skOf_found (l := ens il) (by rw [hbo]) (ens_get hke)
          rw [hjl] at this
          exact this
        obtain ⟨zs, hzs⟩ : ∃ zs, blk (ens il) = zs := ⟨_, rfl⟩
        rw [hbo] at ca
        have hlz := len_le_blk (ens il)
        rw [hzs] at ca hsm hbz hlz hsk
        rw [hjl] at hlz
        obtain ⟨N, hN⟩ : ∃ N, zs.length = N := ⟨_, rfl⟩
        unfold BytErrO at ca
        simp only [] at ca
        rw [hN] at ca hsm hlz
        have HBZ := Lib.hid hbz
        have HN := Lib.hid hN
        have HJL := Lib.hid hjl
        have HSK := Lib.hid hsk
        clear hbo hbz hzs hN hok hie HQ hne hjl hj hsk
        go_wp2_with fail
        refine ca.mono ?_
        rintro e w3 ⟨A3, c3, rfl, hn3, -⟩
        have hj0'' : ((j : Int) == 0) = false := by simpa using hj0
        have hb3 := hn3.bel
        have hc3 := hn3.cap
        rw [HN.out] at hc3
        have hr3 := hn3.rd
        have hnil := hn3.nil
        have hrb3 := HI.out.2.2.bS hb3
        clear hn3 ca
        have cpk := kitPick wh j w3 (by omega) (by omega)
        obtain ⟨kk, hkk⟩ : ∃ kk : Nat, wh % (j : Int) = (kk : Int) := ⟨(wh % (j : Int)).toNat, (Int.toNat_of_nonneg (Int.emod_nonneg _ (by omega))).symm⟩
        have hkN : kk < j := by have := Int.emod_lt_of_pos wh (show (0 : Int) < (j : Int) by omega); omega
        have hkN' : (kk : Int) < (j : Int) := by omega
        rw [hkk] at cpk
        obtain ⟨x, hx⟩ : ∃ x, il[kk]? = some x := ⟨_, List.getElem?_eq_getElem (by rw [HI.out.2.1]; exact hkN)⟩
        obtain ⟨sn, hsn⟩ := HSK.out kk x hx
        obtain ⟨b1, o1, e1, hb1, hc1, hok1⟩ := hrb3.get hx
        subst e1
        have la := loadK_be hc1
        go_wp2_with fail
        refine cpk.mono ?_
        rintro e w10 ⟨rfl, rfl⟩
        clear cpk
        go_upto_region 16 with fail
        obtain ⟨g, hg⟩ : ∃ g, w10.heap.size = g := ⟨_, rfl⟩
        have bk := Bk.new w10 29 (beA x)
        have hal : Below w10.heap.size w10 (w10.alloc (.cells (beA x) 29)) := (Below.refl _ w10).alloc (Nat.le_refl _) _
        obtain ⟨W, hW⟩ : ∃ W, w10.alloc (.cells (beA x) 29) = W := ⟨_, rfl⟩
        rw [hg] at bk ⊢
        rw [hW] at bk hal ⊢
        have f0 : W.cell? ⟨g, 0, none⟩ = some (.slice x.A1 x.x.key.length x.c1) := by rw [bk.cell]; rfl
        have f1 : W.cell? ⟨g, 1, none⟩ = some (.int .u64 x.x.seq) := by rw [bk.cell]; rfl
        have hr4 := Rd.below hr3 hal
        have hok4 := (hok1.below hal).more hal.size
        have hb4 := hb3.trans (hal.mono hb3.size)
        have lx := loadK_beB bk
        have BK := Lib.hid bk
        have hkm := hok1.km
        have hmx : maxLen = 9223372036854775807 := rfl
        have cs := blkSeek (c := c3) (ck := x.c1) (seq := x.x.seq) W (Rd.more hr4 hal.size) hok4.k (Nat.le_refl _) HBZ.out hok4.kb HN.out hc3 hnil (by omega) rfl hok4.seq
        rw [hsn.1] at cs
        have HSN := Lib.hid hsn.2
        have HX := Lib.hid hx
        have HOK4 := Lib.hid hok4
        clear hW hg hal hr3 hr4 hrb3 hok1 hc1 la hb3 hsn hx hok4 hnil HSK bk
        go_wp2_with fail
        refine cs.mono ?_
        rintro e w12 ⟨A6, c6, A7, c7, rfl, ok12, hb12'⟩
        have hb5 := hb4.trans (hb12'.mono hb4.size)
        clear cs hb4
        go_upto_region 17 with fail
        obtain ⟨x2, hx2⟩ : ∃ x2 : BE, (⟨x.x, A6, c6, A7, c7⟩ : BE) = x2 := ⟨_, rfl⟩
        obtain ⟨g2, hg2⟩ : ∃ g2, w12.heap.size = g2 := ⟨_, rfl⟩
        have hxx : x2.x = x.x := by rw [← hx2]
        have bk2 := Bk.new w12 29 (beA x2)
        have hal2 : Below w12.heap.size w12 (w12.alloc (.cells (beA x2) 29)) := (Below.refl _ w12).alloc (Nat.le_refl _) _
        obtain ⟨W2, hW2⟩ : ∃ W2, w12.alloc (.cells (beA x2) 29) = W2 := ⟨_, rfl⟩
        have hW2' : w12.alloc (.cells #[.slice A6 x.x.key.length c6, .int .u64 x.x.seq, .int .i64 x.x.kind, .slice A7 x.x.val.length c7] 29) = W2 := by rw [← hW2, ← hx2]
        rw [hx2] at ok12
        rw [hg2] at bk2 ⊢
        rw [hW2] at bk2 hal2
        rw [hW2']
        have ok2 := (ok12.below hal2).more hal2.size
        have lx2 := loadK_beB bk2
        have bk1 := (BK.out.below hb12' BK.out.lt).below hal2 (Nat.lt_of_lt_of_le BK.out.lt hb12'.size)
        have lx1 := loadK_beB bk1
        have ok1 := (((HOK4.out.below hb12').more hb12'.size).below hal2).more hal2.size
        have hb6 := hb5.trans (hal2.mono hb5.size)
        have hbw := hbr.trans (hb6.mono hbr.size)
        clear bk1 bk2 hW2 hW2' hg2 hal2 ok12 hb5 hb12' hx2 HOK4 BK f0 f1 lx hb6 hbr
        have ce := kitEntry W2 ok2 ok1 (Nat.le_refl _) (Nat.le_refl _)
        rw [hxx, show enEqb x.x x.x = true from enEqb_iff.2 rfl] at ce
        have CE := Lib.hid ce
        clear ce ok2 ok1
        have hsn1 := HSN.out
        obtain ⟨R, hR⟩ : ∃ R, (j + 15) / 16 = R := ⟨_, rfl⟩
        have hR1 : ((j : Int) + 16 - 1) / 16 = (R : Int) := by omega
        have hR2 : ((j : Int) + 16 - 1).tdiv 16 = (R : Int) := by rw [Int.tdiv_eq_ediv_of_nonneg (by omega)]; exact hR1
        have hR3 : R ≤ 13 := by omega
        rw [hR] at hsn1
        have HS1 := Lib.hid hsn1
        have HVR := Lib.hid (show hv R ≤ 13 from Nat.le_trans (hv_le 13 R (by omega)) (by omega))
        clear hsn1 hR HSN
        go_wp2_with fail
        go_loopw [14, 15] (fun bv_ rv_ wr2 => ∃ b r : Nat, b + hv r = 17 + hv R ∧ r ≤ 13 ∧ b ≤ 30 ∧ bv_ = .int .i64 b ∧ rv_ = .int .i64 r ∧ wr2 = W2) (fun _ r _ => (intOf r).toNat)
        case atStart => exact ⟨17, R, rfl, hR3, by omega, rfl, by go_num, rfl⟩
        case round =>
          obtain ⟨b, r, hbr2, hr13, hb30, rfl, rfl, rfl⟩ := hrel
          by_cases hr1 : 1 < r
          · have hr1' : (1 : Int) < (r : Int) := by omega
            have hst := hv_step hr1
            have hvl := hv_le 13 ((r + 1) / 2) (by omega)
            obtain ⟨r', hr'⟩ : ∃ r', (r + 1) / 2 = r' := ⟨_, rfl⟩
            have e1 : ((r : Int) + 1) / 2 = (r' : Int) := by omega
            have e2 : ((r : Int) + 1).tdiv 2 = (r' : Int) := by rw [Int.tdiv_eq_ediv_of_nonneg (by omega)]; exact e1
            have hrl : r' < r := by omega
            rw [hr'] at hst hvl
            have HST := Lib.hid hst
            have HBR := Lib.hid hbr2
            clear hst hr' hbr2 hvl
            go_wp2_with fail
            exact ⟨⟨b + 1, r', by have h1 := HST.out; have h2 := HBR.out; omega, by omega, by have h1 := HST.out; have h2 := HBR.out; have h3 := HVR.out; omega, by go_num, by go_num, by first | rfl | trivial⟩, by simp only [intOf]; omega⟩
          · have hd : decide ((1 : Int) < (r : Int)) = false := by simp; omega
            have h0 := hv_one hr1
            have hsb : sn ≤ b := by have := HS1.out; omega
            have hs1 : 1 ≤ sn := HS1.out.1
            have hsb' : (sn : Int) ≤ (b : Int) := by omega
            have hs1' : (1 : Int) ≤ (sn : Int) := by omega
            clear h0 hbr2
            go_wp2_with fail
            refine CE.out.mono ?_
            rintro e w14 ⟨rfl, hb14⟩
            go_wp2_with fail
            go_ret
            exact ⟨rfl, hbw.trans (hb14.mono hbw.size)⟩
end Go.Proofs.Ytleghbdkjdpilaa
