/- The statement BlockBack: a block's bytes tell its entries, and no other bytes do. The walk. -/
import Derived.Laws.OwnMore
import Derived.Test.YtleghbdkjdpilaaBkG
import Derived.Test.YtleghbdkjdpilaaBkL
import Derived.Test.YtleghbdkjdpilaaEnI
import Derived.Test.YtleghbdkjdpilaaPk
import Derived.Test.YtleghbdkjdpilaaKitOwn
import Derived.Test.YtleghbdkjdpilaaRbR
namespace Go.Proofs.Ytleghbdkjdpilaa
open Go.RowKit
theorem loadEn_shutBb (a : Addr) : loadVar 29 a = loadK 29 a := rfl
attribute [local go_sem ↓] loadEn_shutBb

theorem parOf_len (zs : List Int) : (parOf zs).1.length ≤ 262144 := by
  by_cases h : (parOf zs).2 = 0
  · obtain ⟨-, -, h2, h3⟩ := parOf_zero h
    have := len_le_blk (parOf zs).1
    rw [h2] at this
    omega
  · unfold parOf at h ⊢
    by_cases h1 : 262144 < zs.length
    · rw [if_pos h1]; simp
    rw [if_neg h1] at h ⊢
    by_cases h2 : tailOk zs = false
    · rw [if_pos h2]; simp
    rw [if_neg h2] at h ⊢
    by_cases h3 : (parBody zs).1 = false
    · rw [if_pos h3]; simp
    rw [if_neg h3] at h ⊢
    by_cases h4 : (blkOut (parBody zs).2).2 ≠ 0 ∨ ¬ (blkOut (parBody zs).2).1 = zs
    · rw [if_pos h4]; simp
    · rw [if_neg h4] at h
      exact absurd rfl h
/-- Own, as it is used here. -/
theorem kitOwnB {A : Option Addr} {c B n : Nat} {xs : List Int} (w : World) (ha : Rb w B A xs) (hB : B ≤ w.heap.size) (hx : xs.length ≤ 140737488351232) (hn : xs.length = n) :
    Calls Try.prog 18 #[.slice A n c] w fun e w' => ∃ A' c', e = .returned (.slice A' n c') ∧ Rb w' w'.heap.size A' xs ∧ n ≤ c' ∧ A' ≠ none ∧ Below w.heap.size w w' :=
  (kitOwn w ha hB hx hn).mono fun e w' ⟨A', c', he, happ, hne⟩ => ⟨A', c', he, happ.rd, happ.cap, hne, happ.below0⟩

set_option maxRecDepth 100000 in
set_option maxHeartbeats 4000000 in
theorem blockBack_walk (A : Option Addr) (n c : Nat) (l : List BE) (at_ bt : Int) (w : World) (h : InEs w A n c l) (_h1 : (Lit.int .i64 at_).wf = true) (hw2 : (Lit.int .u8 bt).wf = true) :
    Calls Try.prog 5 #[.slice A n c, .int .i64 at_, .int .u8 bt] w fun e w' => e = .returned (.bool true) ∧ Below w.heap.size w w' := by
  have hnm : n ≤ 9223372036854775807 := by have h1 := h.cap; have h2 := h.max; simp only [maxLen] at h2; omega
  have HA := Lib.hid h
  have H2 := Lib.hid (byte_wf hw2)
  clear h hw2 _h1
  go_enter Try.func5, Try.ntmps5
  go_upto_region 3 with (go_at_call 6; refine (lives_true _).mono ?_; rintro e w1 ⟨rfl, hb1⟩)
  by_cases hn2 : 200 < n
  · have hd : decide ((200 : Int) < (n : Int)) = true := by simp; omega
    have hd2 : (200 : Int) < (n : Int) := by omega
    go_wp2_with fail
    go_ret
    exact ⟨rfl, hb1⟩
  have hd2 : ¬ (200 : Int) < (n : Int) := by omega
  have hd : decide ((200 : Int) < (n : Int)) = false := by simp; omega
  have cw := kitWeigh (c := c) l w1 (HA.out.rd.below hb1) HA.out.len hb1.size (by omega) (fun e he => HA.out.wt e he)
  obtain ⟨q, hq⟩ : ∃ q, weigh (ens l) = q := ⟨_, rfl⟩
  rw [hq] at cw
  have HQ := Lib.hid hq
  have CW := Lib.hid cw
  clear cw hq
  go_upto_region 5 with (go_at_call 7; refine CW.out.mono ?_; rintro e w2 ⟨rfl, hb2⟩)
  · go_ret
    exact ⟨rfl, hb1.trans (hb2.mono hb1.size)⟩
  rename_i hq2
  have hb12 := hb1.trans (hb2.mono hb1.size)
  clear hb1 hb2 CW hd hd2
  go_wp2_with fail
  go_loopw [7, 8] (fun v iv_ wr => ∃ (i j c' : Nat) (A' : Option Addr) (il : List BE), i ≤ n ∧ iv_ = .int .i64 i ∧ v = .slice A' j c' ∧ j ≤ c' ∧ j ≤ i ∧ Hid (ens il = inTo (ens l) i ∧ il.length = j ∧ RbE wr wr.heap.size A' il) ∧ Below w.heap.size w wr) (fun _ i _ => n - (intOf i).toNat)
  case atStart => exact ⟨0, 0, 0, none, [], by omega, rfl, rfl, Nat.le_refl _, Nat.le_refl _, Lib.hid ⟨rfl, rfl, RbE.nil⟩, hb12⟩
  case round =>
    obtain ⟨i, j, c', A', il, hi, rfl, rfl, hjc, hji, HI, hbr⟩ := hrel
    by_cases hlt : i < n
    · have hlt' : (i : Int) < (n : Int) := by omega
      obtain ⟨a, ha⟩ : ∃ a, l[i]? = some a := ⟨_, List.getElem?_eq_getElem (by rw [HA.out.len]; exact hlt)⟩
      obtain ⟨b1, o1, e1, hb1, hc1, hok1⟩ := (HA.out.rd.below hbr).get ha
      subst e1
      have la := loadK_be hc1
      have hcx := rCheckEntry (A1 := a.A1) (c1 := a.c1) (A2 := a.A2) (c2 := a.c2) a.x wr rfl rfl
      have hok1 := hok1.more hbr.size
      have hst := inTo_step (ens_get ha)
      obtain ⟨ck, hck⟩ : ∃ ck, enChk a.x = ck := ⟨_, rfl⟩
      rw [hck] at hcx
      have HST := Lib.hid hst
      have HCK := Lib.hid hck
      have HC1 := Lib.hid hc1
      have HB1 := Lib.hid hb1
      have HOK := Lib.hid hok1
      clear hst hck hc1 hb1 hok1 ha
      go_upto_if 9 with fail
      refine hcx.mono ?_
      rintro e w3 ⟨rfl, hb3⟩
      have hbr3 := hbr.trans (hb3.mono hbr.size)
      by_cases h0 : ck = 0
      · subst h0
        have lb : (loadK 29 ⟨b1, o1 + i * 4, none⟩).run Try.prog w3 = .ok (beV a) w3 := loadK_be fun j hj => (hb3.cell (Nat.lt_of_lt_of_le HB1.out hbr.size)).trans (HC1.out j hj)
        have hpt := rPut (c := c') il a w3 (HI.out.2.2.bS hb3) ((HOK.out.below hb3).more hb3.size) HI.out.2.1 hjc (by omega)
        obtain ⟨pl, hpl⟩ : ∃ pl, putE a il = pl := ⟨_, rfl⟩
        rw [hpl] at hpt
        have hpn : ens pl = putN a.x (inTo (ens l) i) := by rw [← hpl, ens_put, HI.out.1]
        have hplen : pl.length = j + 1 := by
          have h1 := congrArg List.length hpn
          rw [putN_len, ← HI.out.1] at h1
          simp only [ens, List.length_map] at h1
          rw [h1, HI.out.2.1]
        have HPN := Lib.hid hpn
        have HPL := Lib.hid hplen
        unfold RpPost at hpt
        rw [hplen] at hpt
        clear hpl hpn hplen hcx
        go_wp2_with fail
        refine hpt.mono ?_
        rintro e w4 ⟨A4, c4, rfl, rb4, hb4, hc4⟩
        have hbr4 := hbr3.trans (hb4.mono hbr3.size)
        have hrw := rRow (c := c4) pl w4 rb4 HPL.out (Nat.le_refl _) (by omega)
        obtain ⟨rs, hrs⟩ : ∃ rs, risB (ens pl) = rs := ⟨_, rfl⟩
        rw [hrs] at hrw
        have RB4 := Lib.hid rb4
        have HRS := Lib.hid hrs
        clear rb4 hrs
        go_wp2_with fail
        refine hrw.mono ?_
        rintro e w5 ⟨rfl, hb5⟩
        have hbr5 := hbr4.trans (hb5.mono hbr4.size)
        cases rs with
        | true =>
          go_wp2_with fail
          exact ⟨⟨i + 1, j + 1, c4, A4, pl, by omega, by go_num, rfl, hc4, by omega, Lib.hid ⟨by rw [HPN.out, HST.out, inStep, if_neg (by rw [HCK.out]; simp), if_pos (by rw [← HPN.out]; exact HRS.out)], HPL.out, RB4.out.bS hb5⟩, hbr5⟩, by simp only [intOf]; omega⟩
        | false =>
          go_wp2_with fail
          exact ⟨⟨i + 1, j, c', A', il, by omega, by go_num, rfl, hjc, by omega, Lib.hid ⟨by rw [HST.out, inStep, if_neg (by rw [HCK.out]; simp), if_neg (by rw [← HPN.out, HRS.out]; simp)]; exact HI.out.1, HI.out.2.1, ((HI.out.2.2.bS hb3).bS hb4).bS hb5⟩, hbr5⟩, by simp only [intOf]; omega⟩
      · have h0' : ¬ (ck : Int) = 0 := by omega
        go_wp2_with fail
        exact ⟨⟨i + 1, j, c', A', il, by omega, by go_num, rfl, hjc, by omega, Lib.hid ⟨by rw [HST.out, inStep, if_pos (by rw [HCK.out]; exact h0)]; exact HI.out.1, HI.out.2.1, HI.out.2.2.bS hb3⟩, hbr3⟩, by simp only [intOf]; omega⟩
    · have hin : i = n := by omega
      have hlt' : decide ((i : Int) < (n : Int)) = false := by simp; omega
      subst hin
      have hie : inTo (ens l) i = ens il := HI.out.1.symm
      have hok : InOk (ens il) 200 q := by
        have h1 := inTo_le (l := ens l) (i := i) (by rw [ens, List.length_map, HA.out.len]; exact Nat.le_refl _)
        rw [hie, HQ.out] at h1
        exact ⟨h1.chk, h1.ris, by have := h1.len; omega, h1.wt⟩
      have hq20 : q ≤ 20000 := by omega
      have hj := HI.out.2.1
      have hjl : (ens il).length = j := by rw [ens, List.length_map, hj]
      have ca := blkAppendO (c := c') il wr HI.out.2.2 hj (Nat.le_refl _) (by omega)
      by_cases hj0 : j = 0
      · subst hj0
        have he : ens il = [] := List.eq_nil_of_length_eq_zero hjl
        rw [he, show blkOut [] = ([], 2) from blkOut_none rfl rfl] at ca
        go_wp2_with fail
        refine ca.mono ?_
        rintro e w3 ⟨A3, c3, rfl, hn3, -⟩
        have hbr3 := hbr.trans (hn3.bel.mono hbr.size)
        go_wp2_with fail
        go_ret
        exact ⟨rfl, hbr3⟩
      · have hne : ens il ≠ [] := fun e => by rw [e] at hjl; exact hj0 hjl.symm
        have hbo := blkOut_small hok hq20 hne
        have hpar := parOf_blk (l := ens il) (by rw [hbo])
        have hsh := parOf_short hok hq20 hne
        have hsm := blk_small hok hq20
        have hfine := enErr_zero hok.chk
        obtain ⟨L, hL⟩ : ∃ L, ens il = L := ⟨_, rfl⟩
        have hbz : Byt (blk (ens il)) := blk_byt fun x hx => by
          obtain ⟨e, he, rfl⟩ := List.mem_map.1 hx
          exact ⟨(HI.out.2.2.ok e he).kb, (HI.out.2.2.ok e he).vb⟩
        have hpo : ∀ zs, zs ≠ blk (ens il) → (parOf zs).2 = 0 → (parOf zs).1 ≠ ens il := fun zs h1 h2 => parOf_other h1 h2
        have hszf : ∀ e ∈ il, e.x.Fine := fun e he => hfine e.x (List.mem_map.2 ⟨e, he, rfl⟩)
        have CZ : Hid (∀ W, Below wr.heap.size wr W → Calls Try.prog 17 #[.slice A' j c'] W fun e w' => e = .returned (.int .i64 ((blk (ens il)).length : Nat)) ∧ Below W.heap.size W w') := Lib.hid fun W hW => blkSize (c := c') il W (HI.out.2.2.below hW) hj hW.size (by omega) hszf
        obtain ⟨zs, hzs⟩ : ∃ zs, blk (ens il) = zs := ⟨_, rfl⟩
        rw [hbo] at ca
        have hlz := len_le_blk (ens il)
        rw [hzs] at ca hpar hsh hsm hbz hpo CZ hlz
        rw [hjl] at hlz
        obtain ⟨N, hN⟩ : ∃ N, zs.length = N := ⟨_, rfl⟩
        unfold BytErrO at ca
        simp only [] at ca
        rw [hN] at ca hsm hsh CZ hlz
        have HPAR := Lib.hid hpar
        have HSH := Lib.hid hsh
        have HBZ := Lib.hid hbz
        have HPO := Lib.hid hpo
        have HN := Lib.hid hN
        have HJL := Lib.hid hjl
        clear hbo hpar hsh hfine hbz hpo hszf hzs hN hL hok hie HQ hne hjl hj
        go_wp2_with fail
        refine ca.mono ?_
        rintro e w3 ⟨A3, c3, rfl, hn3, own3⟩
        have HR := Lib.hid HI.out.2.2
        have hg3 : ∃ g3, A3 = some ⟨g3, 0, none⟩ ∧ wr.heap.size ≤ g3 ∧ g3 < w3.heap.size := by
          rcases own3.2 with ⟨-, h0⟩ | ⟨g, cap, cur, h1, h2, h3, -⟩
          · omega
          · simp only [Value.slice.injEq] at h1
            exact ⟨g, h1.1, h2, by rw [Array.getElem?_eq_some_iff] at h3; exact h3.1⟩
        obtain ⟨g3, rfl, hg3a, hg3b⟩ := hg3
        have hb3 := hn3.bel
        have hc3 := hn3.cap
        rw [HN.out] at hc3
        have hr3 := hn3.rd
        clear hn3 ca
        go_wp2_with fail
        refine (kitOwnB w3 hr3 (Nat.le_refl _) (by rw [HN.out]; omega) HN.out).mono ?_
        rintro e w4 ⟨A4, c4, rfl, hr4, hc4, hA4, hb4⟩
        have cp := blkParse (c := c4) w4 hr4 (Nat.le_refl _) HBZ.out HN.out hc4 (fun e => absurd e hA4) (by omega)
        rw [HPAR.out] at cp
        unfold ParPost at cp
        simp only [] at cp
        rw [HJL.out] at cp
        go_wp2_with fail
        refine cp.mono ?_
        rintro e w5 ⟨A5, c5, acc, hacc, rfl, rb5, hb5, hc5⟩
        have k5 := hb4.trans (hb5.mono hb4.size)
        have hb35 := hb3.trans (k5.mono hb3.size)
        have hal : acc.length = j := by
          have h1 := congrArg List.length hacc
          rw [HJL.out] at h1
          simpa [ens] using h1
        have ce := kitEntries (c := c5) (c' := c') acc il w5 rb5 (HR.out.below hb35) hal HI.out.2.1 (Nat.le_refl _) hb35.size (by omega)
        rw [hacc, decide_eq_true rfl] at ce
        have CE := Lib.hid ce
        clear ce cp hacc hal rb5 hr4 hb4 hb5 hA4
        go_wp2_with fail
        refine CE.out.mono ?_
        rintro e w6 ⟨rfl, hb6⟩
        have k6 := k5.trans (hb6.mono k5.size)
        clear CE hb35 hb6 k5
        go_wp2_with fail
        refine (CZ.out w6 (hb3.trans (k6.mono hb3.size))).mono ?_
        rintro e w7 ⟨rfl, hb7⟩
        have k7 := k6.trans (hb7.mono k6.size)
        clear hb7 k6 CZ
        obtain ⟨M, hM⟩ : ∃ M, N - 1 = M := ⟨_, rfl⟩
        have hM1 : (N : Int) - 1 = (M : Int) := by omega
        have hM2 : M ≤ N := by omega
        have hM3 : M ≤ c3 := by omega
        have hs1 : IntKind.i64.wrap ((N : Int) - 1) = (M : Int) := by rw [hM1]; exact IntWalk.i64_in _ ⟨by omega, by omega⟩
        have hsh := HSH.out
        rw [hM] at hsh
        have htl : (zs.take M).length = M := by rw [List.length_take, HN.out]; omega
        have co := kitOwnB (c := c3) w7 ((Rb.take hr3 M).below k7) k7.size (by omega) htl
        have HSH2 := Lib.hid hsh
        have HTL := Lib.hid htl
        clear hsh htl hM HSH
        go_wp2_with fail
        refine co.mono ?_
        rintro e w8 ⟨A8, c8, rfl, hr8, hc8, hA8, hb8⟩
        have k8 := k7.trans (hb8.mono k7.size)
        have cp := blkParse (c := c8) w8 hr8 (Nat.le_refl _) (fun x hx => HBZ.out x (List.mem_of_mem_take hx)) HTL.out hc8 (fun e => absurd e hA8) (by omega)
        obtain ⟨r, hr⟩ : ∃ r, parOf (zs.take M) = r := ⟨_, rfl⟩
        rw [hr] at cp
        have hr2 := HSH2.out
        rw [hr] at hr2
        clear co hr HSH2 HTL hr8 hb8 k7
        go_wp2_with fail
        refine cp.mono ?_
        rintro e w9 ⟨A9, c9, acc9, -, rfl, -, hb9, -⟩
        have k9 := k8.trans (hb9.mono k8.size)
        obtain ⟨r2, hr2'⟩ : ∃ r2, r.2 = r2 := ⟨_, rfl⟩
        rw [hr2'] at hr2 ⊢
        have hr3' : ((r2 : Nat) : Int) ≠ 0 := by omega
        clear hr2' hb9 k8 cp
        have cpk := kitPick at_ N w9 (by omega) (by omega)
        obtain ⟨kk, hkk⟩ : ∃ kk : Nat, at_ % (N : Int) = (kk : Int) := ⟨(at_ % (N : Int)).toNat, (Int.toNat_of_nonneg (Int.emod_nonneg _ (by omega))).symm⟩
        have hkN : kk < N := by have := Int.emod_lt_of_pos at_ (show (0 : Int) < (N : Int) by omega); omega
        have hkN' : (kk : Int) < (N : Int) := by omega
        rw [hkk] at cpk
        have own9 := own_belowB own3 k9
        obtain ⟨x, hx⟩ : ∃ x, zs[kk]? = some x := ⟨_, List.getElem?_eq_getElem (by rw [HN.out]; exact hkN)⟩
        have hcell : w9.cell? ⟨g3, kk, none⟩ = some (.int .u8 x) := by
          rw [own9.cellAt kk (by omega)]
          exact bv_get hx
        have hfz : w9.frozen? ⟨g3, kk, none⟩ = false := own9.frozenAt kk
        have hx8 := HBZ.out x (List.mem_of_getElem? hx)
        obtain ⟨y, hy⟩ : ∃ y, bits .xor .u8 x bt = y := ⟨_, rfl⟩
        have hy8 : 0 ≤ y ∧ y ≤ 255 := by rw [← hy, (u8_xor hx8 H2.out).1]; have := (u8_xor hx8 H2.out).2; omega
        have hyne : bt ≠ 0 → y ≠ x := fun h0 => by rw [← hy]; exact xor_ne hx8 H2.out h0
        have HX := Lib.hid hx
        have HY8 := Lib.hid hy8
        have HYNE := Lib.hid hyne
        have OWN9 := Lib.hid own9
        clear own9 hkk own3 hx hy8 hyne hx8
        go_wp2_with fail
        refine cpk.mono ?_
        rintro e w10 ⟨rfl, rfl⟩
        clear cpk
        have own10 := (OWN9.out.stored kk (.int .u8 y)).1
        have hb10 := (hb3.trans (k9.mono hb3.size)).setCell (p := ⟨g3, kk, none⟩) hg3a (.int .u8 y)
        obtain ⟨W, hW⟩ : ∃ W, w10.setCell ⟨g3, kk, none⟩ (.int .u8 y) = W := ⟨_, rfl⟩
        go_wp2_with fail
        rw [hW] at own10 hb10
        have e10 : (bv zs).set kk (.int .u8 y) = bv (zs.set kk y) := by simp [bv, List.map_set]
        rw [e10] at own10
        have hr10 : Rb W W.heap.size (some ⟨g3, 0, none⟩) (zs.set kk y) := Rd.of_own own10
        have hsn : bt ≠ 0 → zs.set kk y ≠ zs := fun h0 => set_ne HX.out (HYNE.out h0)
        have hzl : (zs.set kk y).length = N := by rw [List.length_set, HN.out]
        have cp := blkParse (c := c3) W hr10 (Nat.le_refl _) (set_byt HBZ.out HY8.out) hzl hc3 (fun e => by cases e) (by omega)
        have hpo := fun h0 h1 => HPO.out (zs.set kk y) (hsn h0) h1
        obtain ⟨r3, hr3⟩ : ∃ r3, parOf (zs.set kk y) = r3 := ⟨_, rfl⟩
        have hrl := parOf_len (zs.set kk y)
        rw [hr3] at cp hpo hrl
        have HRL := Lib.hid hrl
        have HPO2 := Lib.hid hpo
        clear hr3 hpo hzl hsn own10 e10 hW HX HY8 HYNE HPO hcell hfz k9 OWN9 HPAR HBZ
        refine cp.mono ?_
        rintro e w11 ⟨A11, c11, acc, hacc, rfl, rb11, hb11, hc11⟩
        have hb_11 := hb10.trans (hb11.mono hb10.size)
        have hal : acc.length = r3.1.length := by
          have h1 := congrArg List.length hacc
          simpa [ens] using h1
        have ce := kitEntries (c := c11) (c' := c') acc il w11 rb11 (HR.out.below hb_11) hal HI.out.2.1 (Nat.le_refl _) hb_11.size (by have := HRL.out; omega)
        rw [hacc] at ce
        have CE := Lib.hid ce
        have hbW := hbr.trans (hb_11.mono hbr.size)
        clear ce cp hacc hal rb11 hr10 hb11
        by_cases hb0 : bt = 0
        · subst hb0
          go_wp2_with fail
          go_ret
          exact ⟨rfl, hbW⟩
        · obtain ⟨z, hz⟩ : ∃ z, r3.2 = z := ⟨_, rfl⟩
          rw [hz] at HPO2 ⊢
          have hb0' : (bt == 0) = false := by simpa using hb0
          by_cases hz0 : z = 0
          · subst hz0
            have hde := HPO2.out hb0 rfl
            rw [decide_eq_false hde] at CE
            clear HPO2 hz hde
            go_wp2_with fail
            refine CE.out.mono ?_
            rintro e w12 ⟨rfl, hb12⟩
            have hbW2 := hbW.trans (hb12.mono hbW.size)
            go_wp2_with fail
            go_ret
            exact ⟨rfl, hbW2⟩
          · have hz0' : ((z : Nat) : Int) ≠ 0 := by omega
            have hz0'' : (((z : Nat) : Int) == 0) = false := by simpa using hz0
            go_wp2_with fail
            go_ret
            exact ⟨rfl, hbW⟩
end Go.Proofs.Ytleghbdkjdpilaa
