/- block.Seek: the walk. -/
import Derived.Deep.Cut
import Derived.BigRegion
import Derived.Deep.RegionHeld3
import Derived.Test.YtleghbdkjdpilaaBkU
import Derived.Test.YtleghbdkjdpilaaResT
namespace Go.Proofs.Ytleghbdkjdpilaa
open Go.RowKit
theorem loadEn_shutZ (a : Addr) : loadVar 29 a = loadK 29 a := rfl
attribute [local go_sem ↓] loadEn_shutZ

theorem results_cell_tmp2 {P : Program} {fn : Func} {p u v : Tmp} {ty : TypeId} (h : fn.results = #[.cell p ty, .tmp u, .tmp v]) (tmps : Array Value) (w : World) (g : Nat) (x : Value)
    (hp : tmps.getD p undef = .pointer (some ⟨g, 0, none⟩)) (hl : (loadK ty ⟨g, 0, none⟩).run P w = .ok x w) :
    (results fn tmps).run P w = .ok (.tuple #[x, tmps.getD u undef, tmps.getD v undef]) w := by
  have hl' : (loadVar ty ⟨g, 0, none⟩).run P w = .ok x w := hl
  rw [Array.getD_eq_getD_getElem?] at hp
  simp only [results, h]
  simp [Sem.run_bind, Result.andThen, hp, asAddr, hl']
set_option maxRecDepth 100000 in
set_option maxHeartbeats 8000000 in
theorem blkSeek {A Ak : Option Addr} {n c nk ck B seq : Nat} {zs key : List Int} (w : World) (ha : Rb w B A zs) (hk : Rb w B Ak key) (hB : B ≤ w.heap.size) (hz : Byt zs) (hkb : Byt key) (hn : zs.length = n) (hc : n ≤ c) (hA : A = none → c = 0) (hnm : n ≤ 9223372036854775807) (hnk : key.length = nk) (hq : seq < 18446744073709551616) :
    Calls Try.prog 13 #[.slice A n c, .slice Ak nk ck, .int .u64 seq] w (SeekPost w (skOf zs key seq)) := by
  subst hnk
  obtain ⟨R, hR⟩ : ∃ R, skOf zs key seq = R := ⟨_, rfl⟩
  obtain ⟨P, hP⟩ : ∃ P, parOf zs = P := ⟨_, rfl⟩
  rw [hR]
  rw [skOf, hP] at hR
  have hal : Below w.heap.size w (w.alloc (.cells #[.slice none 0 0, .int .u64 0, .int .i64 0, .slice none 0 0] 29)) := (Below.refl _ w).alloc (Nat.le_refl _) _
  have bk := Bk.new w 29 #[.slice none 0 0, .int .u64 0, .int .i64 0, .slice none 0 0]
  obtain ⟨w1, hw1⟩ : ∃ w1, w.alloc (.cells #[.slice none 0 0, .int .u64 0, .int .i64 0, .slice none 0 0] 29) = w1 := ⟨_, rfl⟩
  rw [hw1] at hal bk
  have hB1 : B ≤ w1.heap.size := Nat.le_trans hB hal.size
  have cp := blkParse w1 (Rd.below ha (hal.mono hB)) hB1 hz hn hc hA hnm
  rw [hP] at cp
  have CP := Lib.hid cp
  obtain ⟨g0, hg0⟩ : ∃ g, w.heap.size = g := ⟨_, rfl⟩
  rw [hg0] at bk
  have HG0 := Lib.hid hg0
  have HW1 := Lib.hid hw1
  have HBK := Lib.hid bk
  have HAL := Lib.hid hal
  have HR := Lib.hid hR
  have HP := Lib.hid hP
  clear cp hg0 hw1 bk hal hR hP
  go_enter Try.func13, Try.ntmps13
  go_upto_region 1 with fail
  rw [HW1.out, HG0.out]
  obtain ⟨L, pe⟩ := P
  go_upto_region 2 with (go_at_call 16; refine CP.out.mono ?_; rintro e w2 ⟨A2, c2, acc, hacc, rfl, rbe2, hb2, hcap2⟩)
  have hacc' : ens acc = L := hacc
  subst hacc'
  clear hacc
  have hb02 := HAL.out.trans (hb2.mono HAL.out.size)
  have bk2 := HBK.out.below hb2 HBK.out.lt
  obtain ⟨Z, hZ⟩ : ∃ Z, beA ⟨en0, none, 0, none, 0⟩ = Z := ⟨_, rfl⟩
  have bkz : Bk w2 g0 29 Z := by rw [← hZ]; exact bk2
  have HZ := Lib.hid hZ
  have hzs : Z.size = 4 := by rw [← hZ]; rfl
  have hz1 : Z.all (·.oneCell') = true := by rw [← hZ]; exact beA_one _
  have hZi : (Try.prog.info? 29).map (·.size) = some Z.size := by rw [hzs]; rfl
  have HZ1 := Lib.hid hz1
  have HZS := Lib.hid hzs
  have HZI := Lib.hid hZi
  have HBKZ := Lib.hid bkz
  have HB02 := Lib.hid hb02
  have HRB := Lib.hid rbe2
  clear hZ bk2 bkz hb02 hb2 hz1 hzs hZi rbe2
  by_cases h0 : pe = 0
  case neg =>
    have h0b : ((pe : Int) == 0) = false := by rw [beq_eq_false_iff_ne]; omega
    have h0n : ((pe : Int) != 0) = true := by simp [bne, h0b]
    have la : (loadK 29 ⟨g0, 0, none⟩).run Try.prog w2 = .ok (.agg Z) w2 := run_loadVar_row _ g0 _ _ Z (0, 0) _ HBKZ.out Try.underlying29 rfl HZI.out
    have st := run_storeEn HBKZ.out HZS.out HZS.out HZ1.out
    have HLB : Hid ((loadK 29 ⟨g0, 0, none⟩).run Try.prog (w2.setRow g0 Z) = .ok (.agg Z) (w2.setRow g0 Z)) := Lib.hid (run_loadVar_row _ g0 _ _ Z (0, 0) _ (HBKZ.out.rowE Z) Try.underlying29 rfl HZI.out)
    have hr : R = ⟨en0, 0, pe⟩ := by rw [← HR.out, if_pos h0]
    have HR2 := Lib.hid hr
    clear hr
    go_wp2_with fail
    refine bodyPost_ret (results_cell_tmp2 rfl _ _ g0 (.agg Z) rfl HLB.out) rfl ?_
    rw [HR2.out, ← HZ.out]
    exact ⟨none, 0, none, 0, rfl, beOk0 _ _, below_setRow HB02.out (by rw [HG0.out]; exact Nat.le_refl _) _⟩
  case pos =>
    subst h0
    obtain ⟨N, hN⟩ : ∃ N, acc.length = N := ⟨_, rfl⟩
    have hel : (ens acc).length = N := by rw [ens, List.length_map, hN]
    have hpz := parOf_zero (zs := zs) (by rw [HP.out])
    rw [HP.out] at hpz
    obtain ⟨hne, hbo, hblk, hzl⟩ := hpz
    have hNz : N ≤ 262144 := by
      have := len_le_blk (ens acc)
      simp only at hblk
      rw [hblk, hel] at this
      omega
    have hN1 : 1 ≤ N := by
      rw [← hel]
      exact Nat.one_le_iff_ne_zero.2 (fun e => hne (List.eq_nil_of_length_eq_zero e))
    rw [hel] at hcap2
    rw [hel, show (((0 : Nat)) : Int) = 0 from rfl]
    have hr : skGo (ens acc) key seq = R := by rw [← HR.out, if_neg (by simp)]
    have HR2 := Lib.hid hr
    have HN := Lib.hid hN
    have HEL := Lib.hid hel
    clear hr hN hel hne hbo hblk hzl
    have hal3 : Below w2.heap.size w2 (w2.alloc (.cells #[.slice Ak key.length ck, .int .u64 seq, .int .i64 0, .slice none 0 0] 29)) := (Below.refl _ w2).alloc (Nat.le_refl _) _
    have bk3 := Bk.new w2 29 #[.slice Ak key.length ck, .int .u64 seq, .int .i64 0, .slice none 0 0]
    obtain ⟨w3, hw3⟩ : ∃ w3, w2.alloc (.cells #[.slice Ak key.length ck, .int .u64 seq, .int .i64 0, .slice none 0 0] 29) = w3 := ⟨_, rfl⟩
    obtain ⟨g1, hg1⟩ : ∃ g, w2.heap.size = g := ⟨_, rfl⟩
    rw [hw3] at hal3 bk3
    rw [hg1] at bk3
    have HW3 := Lib.hid hw3
    have HG1 := Lib.hid hg1
    have hb03 := HB02.out.trans (hal3.mono HB02.out.size)
    have HB03 := Lib.hid hb03
    have HBK1 := Lib.hid bk3
    have HBK0 := Lib.hid (HBKZ.out.below hal3 HBKZ.out.lt)
    have HRB3 := Lib.hid (HRB.out.bS hal3)
    have HKEY := Lib.hid (Rd.more (Rd.below hk (hb03.mono hB)) (Nat.le_trans hB hb03.size))
    clear hw3 hg1 hb03 bk3 hal3
    go_upto_region 5 with fail
    rw [HW3.out, HG1.out]
    obtain ⟨M, hM⟩ : ∃ M, N - 1 = M := ⟨_, rfl⟩
    obtain ⟨T, hT⟩ : ∃ T, M / 16 = T := ⟨_, rfl⟩
    obtain ⟨hTN, hMN, hdiv, hsub⟩ := skT hN1 hM hT
    have hw1 : IntKind.i64.wrap ((N : Int) - 1) = (M : Int) := by rw [hsub]; exact IntWalk.i64_in _ ⟨by omega, by omega⟩
    have hR0 : skGo (ens acc) key seq = skGo2 (ens acc) key seq (skBin (ens acc) key seq N 0 T 0) := by
      rw [skGo, HEL.out, hM, hT]
    rw [HR2.out] at hR0
    have HR0 := Lib.hid hR0
    clear hM hT hR0 HR2 HR HP hsub
    go_upto_region 6 with fail
    clear hdiv hw1
    go_loopw [7, 11, 12] (fun read_ lo_ hi_ wr => ∃ m lo hi f : Nat, read_ = .int .i64 m ∧ lo_ = .int .i64 lo ∧ hi_ = .int .i64 hi ∧ lo ≤ hi ∧ hi ≤ T ∧ m + hi ≤ T + lo ∧ hi ≤ lo + f ∧ R = skGo2 (ens acc) key seq (skBin (ens acc) key seq f lo hi m) ∧ Below w3.heap.size w3 wr) (fun _ lo_ hi_ _ => (intOf hi_).toNat - (intOf lo_).toNat)
    case atStart => exact ⟨0, 0, T, N, rfl, rfl, rfl, by omega, by omega, by omega, by omega, HR0.out, Below.refl _ _⟩
    case round =>
      obtain ⟨m, lo, hi, f, rfl, rfl, rfl, h1, h2, h3, h4, hrr, hbr⟩ := hrel
      have HRR := Lib.hid hrr
      clear hrr
      by_cases hlt : lo < hi
      · have hlt' : (lo : Int) < (hi : Int) := by omega
        obtain ⟨mid, hm⟩ : ∃ mid, (lo + hi + 1) / 2 = mid := ⟨_, rfl⟩
        obtain ⟨k, hk0⟩ : ∃ k, mid * 16 = k := ⟨_, rfl⟩
        obtain ⟨hmd, hml, hmh, hk1, hk2, hk3, hk4⟩ := skMid hlt h2 hTN hm hk0
        have hkw : IntKind.i64.wrap ((mid : Int) * 16) = (mid : Int) * 16 := IntWalk.i64_in _ ⟨by omega, by omega⟩
        obtain ⟨a, ha1⟩ : ∃ a, acc[k]? = some a := ⟨_, List.getElem?_eq_getElem (by rw [HN.out]; exact hk4)⟩
        have hrb := (HRB3.out.bS hbr).bS (w' := wr.drew) (below_drewN (Below.refl _ _) 1)
        obtain ⟨b1, o1, e1, hb1, hc1, hok1⟩ := hrb.get ha1
        subst e1
        have la := loadK_be hc1
        have hky : Rb wr.drew wr.drew.heap.size Ak key := Rd.more (Rd.below HKEY.out (hbr.drew)) hbr.size
        have bk1 := (HBK1.out.below hbr HBK1.out.lt).drew
        have lb := loadK_beB (e := ⟨⟨key, seq, 0, []⟩, Ak, ck, none, 0⟩) bk1
        have hcmp := batCompare (c1 := a.c1) (c3 := ck) (A2 := a.A2) (n2 := a.x.val.length) (c2 := a.c2) (A4 := none) (n4 := 0) (c4 := 0) (sa := a.x.seq) (sb := seq) (kinda := a.x.kind) (kindb := 0) wr.drew hok1.k hky hok1.kb hkb rfl rfl (Nat.le_refl _)
        have hska : skAt (ens acc) key seq k = entCmp a.x.key a.x.seq key seq := by unfold skAt; rw [ens_get ha1]
        obtain ⟨r, hr⟩ : ∃ r, entCmp a.x.key a.x.seq key seq = r := ⟨_, rfl⟩
        rw [hr] at hcmp hska
        cases f with
        | zero => omega
        | succ f =>
        have hrr := HRR.out
        rw [skBin, if_pos hlt, hm, hk0, hska] at hrr
        obtain ⟨mid1, hmid1, hmid2⟩ : ∃ q : Nat, ((mid : Int) - 1) = (q : Int) ∧ mid - 1 = q := ⟨mid - 1, by omega, rfl⟩
        rw [hmid2] at hrr
        have HRR2 := Lib.hid hrr
        have HM1 := Lib.hid hmid1
        have HM2 := Lib.hid hmid2
        clear hmid1 hmid2
        have HC := Lib.hid hcmp
        have HM := Lib.hid hm
        have HK0 := Lib.hid hk0
        have CLA : Hid (∀ W, Below wr.drew.heap.size wr.drew W → (loadK 29 ⟨b1, o1 + k * 4, none⟩).run Try.prog W = .ok (beV a) W ∧ (loadK 29 ⟨g1, 0, none⟩).run Try.prog W = .ok (beV ⟨⟨key, seq, 0, []⟩, Ak, ck, none, 0⟩) W) := Lib.hid fun W h =>
          ⟨loadK_be fun j hj => (h.cell hb1).trans (hc1 j hj), loadK_beB (e := ⟨⟨key, seq, 0, []⟩, Ak, ck, none, 0⟩) (bk1.below h bk1.lt)⟩
        clear hr hska hcmp hrb hc1 hok1 ha1 hm hk0 hky bk1 hb1 hrr HRR
        go_upto_region 9 with fail
        by_cases hr0 : r < 0
        · have hd : decide (r < 0) = true := by simp [hr0]
          have hrr3 := HRR2.out
          rw [if_pos hr0] at hrr3
          have HR3 := Lib.hid hrr3
          clear hrr3
          go_region_held3 (fun w' => (loadK 29 ⟨b1, o1 + k * 4, none⟩).run Try.prog w' = .ok (beV a) w' ∧ (loadK 29 ⟨g1, 0, none⟩).run Try.prog w' = .ok (beV ⟨⟨key, seq, 0, []⟩, Ak, ck, none, 0⟩) w') (go_keep)
            (first
              | (go_at_call 28
                 refine HC.out.mono ?_
                 rintro e w4 ⟨rfl, hb4⟩
                 obtain ⟨s1, s2⟩ := CLA.out w4 hb4)
              | fail)
          clear hmd hk3 hkw s1 s2 hk2
          go_wp2_with fail
          go_roundw
          case rel => exact ⟨m + 1, mid, hi, f, by go_num, rfl, rfl, hmh, h2, by omega, by omega, HR3.out, hbr.drew.trans (hb4.mono hbr.drew.size)⟩
          case measure => simp only [intOf]; omega
        · have hd : decide (r < 0) = false := by simp; omega
          have hrr3 := HRR2.out
          rw [if_neg hr0] at hrr3
          have HR3 := Lib.hid hrr3
          clear hrr3
          go_region_held3 (fun w' => (loadK 29 ⟨b1, o1 + k * 4, none⟩).run Try.prog w' = .ok (beV a) w' ∧ (loadK 29 ⟨g1, 0, none⟩).run Try.prog w' = .ok (beV ⟨⟨key, seq, 0, []⟩, Ak, ck, none, 0⟩) w') (go_keep)
            (first
              | (go_at_call 28
                 refine HC.out.mono ?_
                 rintro e w4 ⟨rfl, hb4⟩
                 obtain ⟨s1, s2⟩ := CLA.out w4 hb4)
              | fail)
          clear hmd hk3 hkw s1 s2 hk2
          go_wp2_with fail
          go_roundw
          case rel =>
            have hm1 := HM1.out
            have hm2 := HM2.out
            exact ⟨m + 1, lo, mid1, f, by go_num, rfl, by rw [hm1], by omega, by omega, by omega, by omega, HR3.out, hbr.drew.trans (hb4.mono hbr.drew.size)⟩
          case measure => simp only [intOf]; omega
      · have hlh : lo = hi := by omega
        have hrr := HRR.out
        have hsk : skBin (ens acc) key seq f lo hi m = (lo, m) := by
          cases f with
          | zero => rfl
          | succ f => rw [skBin, if_neg hlt]
        rw [hsk] at hrr
        obtain ⟨k, hk0⟩ : ∃ k, lo * 16 = k := ⟨_, rfl⟩
        obtain ⟨hk1, hk2, hk3, hk4, hk5⟩ := skLo (c := c2) (show lo ≤ T by omega) hTN hk0 hcap2
        have hkw : IntKind.i64.wrap ((lo : Int) * 16) = (k : Int) := by rw [hk1]; exact IntWalk.i64_in _ ⟨by omega, by omega⟩
        have hrb := HRB3.out.bS hbr
        obtain ⟨a0, ha0⟩ : ∃ a, acc[0]? = some a := ⟨_, List.getElem?_eq_getElem (by rw [HN.out]; omega)⟩
        obtain ⟨b1, o1, e1, hb1, hc1, hok1⟩ := hrb.get ha0
        subst e1
        unfold skGo2 at hrr
        simp only [hk0] at hrr
        have HRR2 := Lib.hid hrr
        have HRB4 := Lib.hid hrb
        have hb3 := HB03.out.trans (hbr.mono HB03.out.size)
        have HB3 := Lib.hid hb3
        clear hrr hsk HRR hrb ha0 hc1 hok1 hk0 hlh hk1
        go_upto_if 13 with fail
        generalize hWr : wr = wr0
        go_loopw [7, 58] (fun read_ i_ wr => ∃ m2 j : Nat, read_ = .int .i64 m2 ∧ i_ = .int .i64 j ∧ k + j ≤ N ∧ m2 ≤ m + j ∧ R = skEnd (skScan key seq ((ens acc).drop (k + j)) m2) ∧ Below w3.heap.size w3 wr) (fun _ i_ _ => N - (intOf i_).toNat)
        case atStart => exact ⟨m, 0, rfl, rfl, by omega, by omega, HRR2.out, by rw [← hWr]; exact hbr⟩
        case round =>
          obtain ⟨m2, j, rfl, rfl, hj, hm2, hrr, hbr2⟩ := hrel
          have HRR := Lib.hid hrr
          clear hrr
          by_cases hlt2 : k + j < N
          · have hlt3 : (j : Int) < ((N - k : Nat) : Int) := by omega
            obtain ⟨a, ha1⟩ : ∃ a, acc[k + j]? = some a := ⟨_, List.getElem?_eq_getElem (by rw [HN.out]; exact hlt2)⟩
            obtain ⟨b2, o2, e1, hb1, hc1, hok1⟩ := (HRB3.out.bS hbr2).get ha1
            cases e1
            obtain ⟨F, hF⟩ : ∃ F, beA a = F := ⟨_, rfl⟩
            have la := loadK_be hc1
            rw [show o1 + (k + j) * 4 = o1 + k * 4 + j * 4 from by omega] at la
            have hal5 : Below wr.heap.size wr (wr.alloc (.cells F 29)) := (Below.refl _ wr).alloc (Nat.le_refl _) _
            have bk5 := Bk.new wr 29 F
            obtain ⟨w5, hw5⟩ : ∃ w5, wr.alloc (.cells F 29) = w5 := ⟨_, rfl⟩
            obtain ⟨g5, hg5⟩ : ∃ g5, wr.heap.size = g5 := ⟨_, rfl⟩
            rw [hw5] at hal5 bk5
            rw [hg5] at bk5
            rw [← hF] at hw5
            have hbr5 := hbr2.trans (hal5.mono hbr2.size)
            have hok5 := (hok1.below hal5).more hal5.size
            have hky : Rb w5 w5.heap.size Ak key := Rd.more (Rd.below HKEY.out hbr5) hbr5.size
            have bk1 := HBK1.out.below hbr5 HBK1.out.lt
            have lb := loadK_beB (e := ⟨⟨key, seq, 0, []⟩, Ak, ck, none, 0⟩) bk1
            have hFs : F.size = 4 := by rw [← hF]; rfl
            have hFi : (Try.prog.info? 29).map (·.size) = some F.size := by rw [hFs]; rfl
            have l5 : (loadK 29 ⟨g5, 0, none⟩).run Try.prog w5 = .ok (.agg F) w5 := run_loadVar_row _ g5 _ _ F (0, 0) _ bk5 Try.underlying29 rfl hFi
            have hcmp := batCompare (c1 := a.c1) (c3 := ck) (A2 := a.A2) (n2 := a.x.val.length) (c2 := a.c2) (A4 := none) (n4 := 0) (c4 := 0) (sa := a.x.seq) (sb := seq) (kinda := a.x.kind) (kindb := 0) w5 hok5.k hky hok5.kb hkb rfl rfl (Nat.le_refl _)
            obtain ⟨r, hr⟩ : ∃ r, entCmp a.x.key a.x.seq key seq = r := ⟨_, rfl⟩
            have hsc := skScan_step (key := key) (seq := seq) (m := m2) (ens_get ha1)
            rw [hr] at hcmp hsc
            rw [show enV a.A1 a.x.key.length a.c1 a.x.seq a.x.kind a.A2 a.x.val.length a.c2 = .agg (beA a) from rfl, hF] at hcmp
            have hrr := HRR.out
            rw [hsc] at hrr
            have HRR2 := Lib.hid hrr
            have HC := Lib.hid hcmp
            have HF := Lib.hid hF
            have HW5 := Lib.hid hw5
            have HG5 := Lib.hid hg5
            have HOK5 := Lib.hid hok5
            have HBR5 := Lib.hid hbr5
            have HFS := Lib.hid hFs
            have HFI := Lib.hid hFi
            have HL5 := Lib.hid l5
            have HLB := Lib.hid lb
            have HBK5 := Lib.hid bk5
            clear hr hcmp hsc hrr hF hw5 hg5 hok5 hbr5 hFs hFi hky bk1 bk5 hal5 hok1 hc1 hb1 ha1 hbr2 l5 lb HRR
            go_upto_if 15 with fail
            rw [HW5.out, HG5.out]
            have l5 := HL5.out
            have lb := HLB.out
            clear la
            by_cases hr0 : 0 ≤ r
            · have hd : decide (0 ≤ r) = true := by simp [hr0]
              have hrr3 := HRR2.out
              rw [if_pos hr0] at hrr3
              have HR3 := Lib.hid hrr3
              have hdum : ¬ r < 0 := by omega
              clear hrr3 hr0
              go_wp2_with (go_at_call 28; (refine HC.out.mono ?_; rintro e w6 ⟨rfl, hb6⟩; have bk6 := HBK5.out.below hb6 HBK5.out.lt; have l6 : (loadK 29 ⟨g5, 0, none⟩).run Try.prog w6 = .ok (.agg F) w6 := run_loadVar_row _ g5 _ _ F (0, 0) _ bk6 Try.underlying29 rfl HFI.out; have hbr6 := HBR5.out.trans (hb6.mono HBR5.out.size); have b06 := HBK0.out.below hbr6 HBK0.out.lt; have st := run_storeEn b06 HZS.out HFS.out (by rw [← HF.out]; exact beA_one a); clear l5 lb))
              have HLE : Hid ((loadK 29 ⟨g0, 0, none⟩).run Try.prog (w6.setRow g0 F) = .ok (.agg F) (w6.setRow g0 F)) := Lib.hid (run_loadVar_row _ g0 _ _ F (0, 0) _ (b06.rowE F) Try.underlying29 rfl HFI.out)
              refine bodyPost_ret (results_cell_tmp2 rfl _ _ g0 (.agg F) rfl HLE.out) rfl ?_
              have hgs := grown_setRow w6 g0 F
              have hok6 := (HOK5.out.below hb6).more hb6.size
              have bz6 : Bk w6 g0 29 (beA ⟨en0, none, 0, none, 0⟩) := by rw [HZ.out]; exact b06
              rw [HR3.out, ← HF.out]
              refine ⟨a.A1, a.c1, a.A2, a.c2, by simp [skEnd], ?_, below_setRow (HB03.out.trans (hbr6.mono HB03.out.size)) (by rw [HG0.out]; exact Nat.le_refl _) _⟩
              rw [HF.out]
              exact ⟨Rb.beside hok6.k hgs (rb_ne_en hok6.k bz6), Rb.beside hok6.v hgs (rb_ne_en hok6.v bz6), hok6.kc, hok6.vc, hok6.km, hok6.vm, hok6.kb, hok6.vb, hok6.seq, hok6.kn, hok6.vn⟩
            · have hd : decide (0 ≤ r) = false := by simp; omega
              have hrr3 := HRR2.out
              rw [if_neg hr0] at hrr3
              have HR3 := Lib.hid hrr3
              clear hrr3
              go_wp2_with (go_at_call 28; refine HC.out.mono ?_; rintro e w6 ⟨rfl, hb6⟩)
              exact ⟨⟨m2 + 1, j + 1, by go_num, by go_num, by omega, by omega, by rw [HR3.out, Nat.add_assoc], HBR5.out.trans (hb6.mono HBR5.out.size)⟩, by simp only [intOf]; omega⟩
          · have hlt3 : decide ((j : Int) < ((N - k : Nat) : Int)) = false := by simp; omega
            have b0 := HBK0.out.below hbr2 HBK0.out.lt
            have la : (loadK 29 ⟨g0, 0, none⟩).run Try.prog wr = .ok (.agg Z) wr := run_loadVar_row _ g0 _ _ Z (0, 0) _ b0 Try.underlying29 rfl HZI.out
            have st := run_storeEn b0 HZS.out HZS.out HZ1.out
            have HLB : Hid ((loadK 29 ⟨g0, 0, none⟩).run Try.prog (wr.setRow g0 Z) = .ok (.agg Z) (wr.setRow g0 Z)) := Lib.hid (run_loadVar_row _ g0 _ _ Z (0, 0) _ (b0.rowE Z) Try.underlying29 rfl HZI.out)
            have hr : R = ⟨en0, 0, 6⟩ := by
              rw [HRR.out, List.drop_eq_nil_of_le (by rw [HEL.out]; omega)]
              rfl
            have HR3 := Lib.hid hr
            clear hr b0
            go_wp2_with fail
            refine bodyPost_ret (results_cell_tmp2 rfl _ _ g0 (.agg Z) rfl HLB.out) rfl ?_
            rw [HR3.out, ← HZ.out]
            exact ⟨none, 0, none, 0, rfl, beOk0 _ _, below_setRow (HB03.out.trans (hbr2.mono HB03.out.size)) (by rw [HG0.out]; exact Nat.le_refl _) _⟩
end Go.Proofs.Ytleghbdkjdpilaa
