/- Spans, the document's answer: ParseTrace. -/
import Derived.Test.YtohnpogoldbplaaSpT
namespace Go.Proofs.Ytohnpogoldbplaa
open Go.RowKit

set_option maxRecDepth 100000 in
set_option maxHeartbeats 4000000 in
theorem rParseTrace (w : World) (s : ByteArray) :
    Calls Try.prog 16 #[.string s] w fun e w' => e = .returned (.tuple #[.agg #[.int .u64 (ptOf s).1, .int .u64 (ptOf s).2.1], .int .i64 (ptOf s).2.2]) ∧ Below w.heap.size w w' := by
  have hb0 : Below w.heap.size w (w.alloc (.cells #[.int .u64 0, .int .u64 0] 24)) := (Below.refl _ w).alloc (Nat.le_refl _) _
  have bk0 := Bk.new w 24 #[.int .u64 0, .int .u64 0]
  obtain ⟨w1, hw1⟩ : ∃ w1, w.alloc (.cells #[.int .u64 0, .int .u64 0] 24) = w1 := ⟨_, rfl⟩
  have hs1 : w1.heap.size = w.heap.size + 1 := by rw [← hw1]; simp
  rw [hw1] at hb0 bk0
  have HW := Lib.hid hw1
  obtain ⟨r, hr⟩ : ∃ r, ptOf s = r := ⟨_, rfl⟩
  rw [hr]
  have HR := Lib.hid hr
  clear hw1 hr
  go_enter Try.func16, Try.ntmps16
  go_upto_region 1 with fail
  rw [HW.out]
  by_cases hn : s.size = 32
  case neg =>
    have hr : r = (0, 0, 2) := by rw [← HR.out, ptOf, if_pos hn]
    subst hr
    have d1 : ((s.size : Int) != 32) = true := by rw [bne_iff_ne]; omega
    go_wp2_with (refine wpList_store_row rfl 24 (.tmp 2) (.tmp 10) rfl w.heap.size #[.int .u64 0, .int .u64 0] rfl rfl 24 #[.int .u64 0, .int .u64 0] bk0 (by rfl) rfl (by simp [Value.oneCell']) ?_)
    try simp only [Exit.inBlock, Exit.then]
    refine bodyPost_ret (resCellTmp rfl _ _ w.heap.size 24 #[.int .u64 0, .int .u64 0] _ rfl (bk0.rowT _) Try.underlying24 rfl (by rfl)) rfl ?_
    exact ⟨rfl, hb0.trans (below_rowT w1 (Nat.le_refl _) _)⟩
  have d1 : ((s.size : Int) != 32) = false := by rw [bne_eq_false_iff_eq]; omega
  go_upto_region 4 with fail
  have hb2 := hb0.alloc (by omega) (.cells #[.int .u64 0, .int .u64 0] 74)
  have bk2 := bk0.alloc (.cells #[.int .u64 0, .int .u64 0] 74)
  have bq2 := Bk.new w1 74 #[.int .u64 0, .int .u64 0]
  obtain ⟨w2, hw2⟩ : ∃ w2, w1.alloc (.cells #[.int .u64 0, .int .u64 0] 74) = w2 := ⟨_, rfl⟩
  rw [hw2] at hb2 bk2 bq2 ⊢
  rw [hs1] at bq2
  obtain ⟨q, hq⟩ : ∃ q, w.heap.size + 1 = q := ⟨_, rfl⟩
  rw [hq] at bq2 ⊢
  have hqg : w.heap.size ≠ q := by omega
  have hqle : w.heap.size ≤ q := by omega
  have HB2 := Lib.hid (And.intro hb2 (And.intro bk2 bq2))
  clear hw2 hb0 bk0 hs1 HW hq hb2 bk2 bq2
  go_wp2_with fail
  go_loopw [5, 6] (fun iv_ _ wr => ∃ (i a b : Nat), i ≤ 32 ∧ iv_ = .int .i64 i ∧ a < 16 ^ (min i 16) ∧ b < 16 ^ (i - 16) ∧ ptG ((nums s).drop i) i a b = ptG (nums s) 0 0 0 ∧ Below w.heap.size w wr ∧ Bk wr w.heap.size 24 #[.int .u64 0, .int .u64 0] ∧ Bk wr q 74 #[.int .u64 (a : Nat), .int .u64 (b : Nat)]) (fun i _ _ => 32 - (intOf i).toNat)
  case atStart => exact ⟨0, 0, 0, by omega, rfl, by simp, by simp, rfl, HB2.out.1, HB2.out.2.1, HB2.out.2.2⟩
  case round =>
    obtain ⟨i, a, b, hi, rfl, ha, hbb, hpt, hb, bk, bq⟩ := hrel
    have HPT := Lib.hid hpt
    clear HB2 hpt
    by_cases hlt : i < 32
    · have hlt' : (i : Int) < 32 := by omega
      have his : i < s.size := by omega
      obtain ⟨c, hc⟩ : ∃ c : Int, c = ((s[i]'his).toNat : Int) := ⟨_, rfl⟩
      have hcc : ((s[i]'his).toNat : Int) = c := hc.symm
      have HC : Hid ((nums s)[i]? = some c) := by rw [hc]; exact nums_get his
      have hcb := (nums_byt s).get HC.out
      clear hc
      have hstep := ptG_drop (a := a) (b := b) HC.out
      rw [HPT.out] at hstep
      have hway : (c < 48 ∨ (57 < c ∧ c < 97) ∨ 102 < c) ∧ hexV c = -1 ∨ (48 ≤ c ∧ c ≤ 57) ∧ hexV c = c - 48 ∨ (97 ≤ c ∧ c ≤ 102) ∧ hexV c = c - 87 := by
        unfold hexV
        split
        · exact .inr (.inl ⟨by omega, rfl⟩)
        · split
          · exact .inr (.inr ⟨by omega, rfl⟩)
          · exact .inl ⟨by omega, rfl⟩
      obtain ⟨v, hv⟩ : ∃ v, hexV c = v := ⟨_, rfl⟩
      have hvr := hexV_rng c
      rw [hv] at hstep hvr hway
      have HST := Lib.hid hstep
      clear hstep hv
      rcases hway with ⟨hr3, rfl⟩ | ⟨hr1, hve⟩ | ⟨hr1, hve⟩
      · have hr : r = (0, 0, 2) := by
          have := HST.out
          rw [if_pos (by omega)] at this
          rw [← HR.out, ptOf, if_neg (by omega), this]
        subst hr
        rcases hr3 with hr3 | hr3 | hr3
        all_goals
          go_wp2_with (refine wpList_store_row rfl 24 (.tmp 2) (.tmp 15) rfl w.heap.size #[.int .u64 0, .int .u64 0] rfl rfl 24 #[.int .u64 0, .int .u64 0] bk (by rfl) rfl (by simp [Value.oneCell']) ?_)
          try simp only [Exit.inBlock, Exit.then]
          refine bodyPost_ret (resCellTmp rfl _ _ w.heap.size 24 #[.int .u64 0, .int .u64 0] _ rfl (bk.rowT _) Try.underlying24 rfl (by rfl)) rfl ?_
          exact ⟨rfl, hb.trans (below_rowT wr (Nat.le_refl _) _)⟩
      · obtain ⟨dd, rfl⟩ : ∃ dd : Nat, v = dd := ⟨v.toNat, by omega⟩
        have hsub : c - 48 = (dd : Int) := by omega
        have hddb : (dd : Int) ≤ 9 := by omega
        clear hve hvr
        by_cases hi16 : i < 16
        · have hdiv : (i : Int) / 16 = 0 := by omega
          have hdivn : i / 16 = 0 := by omega
          have kq : wr.cell? ⟨q, 0, none⟩ = some (.int .u64 (a : Nat)) := bq.cell 0
          have fq : wr.frozen? ⟨q, 0, none⟩ = false := bq.frozen 0
          have hvb : a < 1152921504606846976 := Nat.lt_of_lt_of_le ha (show _ ≤ 16 ^ 15 from Nat.pow_le_pow_right (by omega) (by omega))
          obtain ⟨y, hy⟩ : ∃ y : Nat, a * 16 + dd = y := ⟨_, rfl⟩
          have hor : bits .or .u64 ((a : Int) * 16) (dd : Int) = (y : Int) := by
            have := or_nib a dd hvb (by omega)
            rw [hy] at this
            rw [← this]
            rfl
          have hwrap : IntKind.u64.wrap ((a : Int) * 16) = (a : Int) * 16 := IntWalk.u64_in _ ⟨by omega, by omega⟩
          have hyb : y < 16 ^ (min (i + 1) 16) := by
            have e : min (i + 1) 16 = min i 16 + 1 := by omega
            rw [e, Nat.pow_succ]
            omega
          have b2 := bq.set 0 (.int .u64 (y : Nat))
          have bk2 := bk.far (p := ⟨q, 0, none⟩) hqg (.int .u64 (y : Nat))
          have hb2 := hb.setCell (p := ⟨q, 0, none⟩) hqle (.int .u64 (y : Nat))
          have hst := HST.out
          rw [if_neg (by omega), if_pos hi16, Int.toNat_natCast, hy] at hst
          have HST2 := Lib.hid hst
          have HYB := Lib.hid hyb
          clear hst HST hy hyb hvb hqle
          go_wp2_with fail
          go_roundw
          case rel => exact ⟨i + 1, y, b, by omega, by go_num, HYB.out, by rw [show i + 1 - 16 = i - 16 from by omega]; exact hbb, HST2.out.symm, hb2, bk2, b2⟩
          case measure => simp [intOf]; omega
        · have hdiv : (i : Int) / 16 = 1 := by omega
          have hdivn : i / 16 = 1 := by omega
          have kq : wr.cell? ⟨q, 1, none⟩ = some (.int .u64 (b : Nat)) := bq.cell 1
          have fq : wr.frozen? ⟨q, 1, none⟩ = false := bq.frozen 1
          have hvb : b < 1152921504606846976 := Nat.lt_of_lt_of_le hbb (show _ ≤ 16 ^ 15 from Nat.pow_le_pow_right (by omega) (by omega))
          obtain ⟨y, hy⟩ : ∃ y : Nat, b * 16 + dd = y := ⟨_, rfl⟩
          have hor : bits .or .u64 ((b : Int) * 16) (dd : Int) = (y : Int) := by
            have := or_nib b dd hvb (by omega)
            rw [hy] at this
            rw [← this]
            rfl
          have hwrap : IntKind.u64.wrap ((b : Int) * 16) = (b : Int) * 16 := IntWalk.u64_in _ ⟨by omega, by omega⟩
          have hyb : y < 16 ^ (i + 1 - 16) := by
            have e : i + 1 - 16 = i - 16 + 1 := by omega
            rw [e, Nat.pow_succ]
            omega
          have b2 := bq.set 1 (.int .u64 (y : Nat))
          have bk2 := bk.far (p := ⟨q, 1, none⟩) hqg (.int .u64 (y : Nat))
          have hb2 := hb.setCell (p := ⟨q, 1, none⟩) hqle (.int .u64 (y : Nat))
          have hst := HST.out
          rw [if_neg (by omega), if_neg hi16, Int.toNat_natCast, hy] at hst
          have HST2 := Lib.hid hst
          have HYB := Lib.hid hyb
          clear hst HST hy hyb hvb hqle
          go_wp2_with fail
          go_roundw
          case rel => exact ⟨i + 1, a, y, by omega, by go_num, by rw [show min (i + 1) 16 = min i 16 from by omega]; exact ha, HYB.out, HST2.out.symm, hb2, bk2, b2⟩
          case measure => simp [intOf]; omega
      · obtain ⟨dd, rfl⟩ : ∃ dd : Nat, v = dd := ⟨v.toNat, by omega⟩
        have hsub : c - 97 + 10 = (dd : Int) := by omega
        have hddb : (dd : Int) ≤ 15 := by omega
        clear hve hvr
        by_cases hi16 : i < 16
        · have hdiv : (i : Int) / 16 = 0 := by omega
          have hdivn : i / 16 = 0 := by omega
          have kq : wr.cell? ⟨q, 0, none⟩ = some (.int .u64 (a : Nat)) := bq.cell 0
          have fq : wr.frozen? ⟨q, 0, none⟩ = false := bq.frozen 0
          have hvb : a < 1152921504606846976 := Nat.lt_of_lt_of_le ha (show _ ≤ 16 ^ 15 from Nat.pow_le_pow_right (by omega) (by omega))
          obtain ⟨y, hy⟩ : ∃ y : Nat, a * 16 + dd = y := ⟨_, rfl⟩
          have hor : bits .or .u64 ((a : Int) * 16) (dd : Int) = (y : Int) := by
            have := or_nib a dd hvb (by omega)
            rw [hy] at this
            rw [← this]
            rfl
          have hwrap : IntKind.u64.wrap ((a : Int) * 16) = (a : Int) * 16 := IntWalk.u64_in _ ⟨by omega, by omega⟩
          have hyb : y < 16 ^ (min (i + 1) 16) := by
            have e : min (i + 1) 16 = min i 16 + 1 := by omega
            rw [e, Nat.pow_succ]
            omega
          have b2 := bq.set 0 (.int .u64 (y : Nat))
          have bk2 := bk.far (p := ⟨q, 0, none⟩) hqg (.int .u64 (y : Nat))
          have hb2 := hb.setCell (p := ⟨q, 0, none⟩) hqle (.int .u64 (y : Nat))
          have hst := HST.out
          rw [if_neg (by omega), if_pos hi16, Int.toNat_natCast, hy] at hst
          have HST2 := Lib.hid hst
          have HYB := Lib.hid hyb
          clear hst HST hy hyb hvb hqle
          go_wp2_with fail
          go_roundw
          case rel => exact ⟨i + 1, y, b, by omega, by go_num, HYB.out, by rw [show i + 1 - 16 = i - 16 from by omega]; exact hbb, HST2.out.symm, hb2, bk2, b2⟩
          case measure => simp [intOf]; omega
        · have hdiv : (i : Int) / 16 = 1 := by omega
          have hdivn : i / 16 = 1 := by omega
          have kq : wr.cell? ⟨q, 1, none⟩ = some (.int .u64 (b : Nat)) := bq.cell 1
          have fq : wr.frozen? ⟨q, 1, none⟩ = false := bq.frozen 1
          have hvb : b < 1152921504606846976 := Nat.lt_of_lt_of_le hbb (show _ ≤ 16 ^ 15 from Nat.pow_le_pow_right (by omega) (by omega))
          obtain ⟨y, hy⟩ : ∃ y : Nat, b * 16 + dd = y := ⟨_, rfl⟩
          have hor : bits .or .u64 ((b : Int) * 16) (dd : Int) = (y : Int) := by
            have := or_nib b dd hvb (by omega)
            rw [hy] at this
            rw [← this]
            rfl
          have hwrap : IntKind.u64.wrap ((b : Int) * 16) = (b : Int) * 16 := IntWalk.u64_in _ ⟨by omega, by omega⟩
          have hyb : y < 16 ^ (i + 1 - 16) := by
            have e : i + 1 - 16 = i - 16 + 1 := by omega
            rw [e, Nat.pow_succ]
            omega
          have b2 := bq.set 1 (.int .u64 (y : Nat))
          have bk2 := bk.far (p := ⟨q, 1, none⟩) hqg (.int .u64 (y : Nat))
          have hb2 := hb.setCell (p := ⟨q, 1, none⟩) hqle (.int .u64 (y : Nat))
          have hst := HST.out
          rw [if_neg (by omega), if_neg hi16, Int.toNat_natCast, hy] at hst
          have HST2 := Lib.hid hst
          have HYB := Lib.hid hyb
          clear hst HST hy hyb hvb hqle
          go_wp2_with fail
          go_roundw
          case rel => exact ⟨i + 1, a, y, by omega, by go_num, by rw [show min (i + 1) 16 = min i 16 from by omega]; exact ha, HYB.out, HST2.out.symm, hb2, bk2, b2⟩
          case measure => simp [intOf]; omega
    · have hlt' : decide ((i : Int) < 32) = false := by simp; omega
      obtain rfl : i = 32 := by omega
      have hpt := HPT.out
      rw [List.drop_eq_nil_of_le (by rw [nums_len]; omega), ptG] at hpt
      have hr := HR.out
      rw [ptOf, if_neg (by omega), ← hpt] at hr
      simp only at hr
      have kq0 : wr.cell? ⟨q, 0, none⟩ = some (.int .u64 (a : Nat)) := bq.cell 0
      have kq1 : wr.cell? ⟨q, 1, none⟩ = some (.int .u64 (b : Nat)) := bq.cell 1
      have hways : (a = 0 ∧ b = 0) ∨ (a ≠ 0) ∨ (a = 0 ∧ b ≠ 0) := by omega
      clear hpt
      rcases hways with hz | hz | hz
      · rw [if_pos hz] at hr
        obtain ⟨rfl, rfl⟩ := hz
        subst hr
        go_wp2_with (refine wpList_store_row rfl 24 (.tmp 2) (.tmp 67) rfl w.heap.size #[.int .u64 0, .int .u64 0] rfl rfl 24 #[.int .u64 0, .int .u64 0] bk (by rfl) rfl (by simp [Value.oneCell']) ?_)
        try simp only [Exit.inBlock, Exit.then]
        refine bodyPost_ret (resCellTmp rfl _ _ w.heap.size 24 #[.int .u64 0, .int .u64 0] _ rfl (bk.rowT _) Try.underlying24 rfl (by rfl)) rfl ?_
        exact ⟨rfl, hb.trans (below_rowT wr (Nat.le_refl _) _)⟩
      · rw [if_neg (by omega)] at hr
        subst hr
        have z1 : ((a : Int) == 0) = false := by rw [beq_eq_false_iff_ne]; omega
        go_wp2_with (refine wpList_store_row rfl 24 (.tmp 2) (.tmp 72) rfl w.heap.size #[.int .u64 (a : Nat), .int .u64 (b : Nat)] rfl rfl 24 #[.int .u64 0, .int .u64 0] bk (by rfl) rfl (by simp [Value.oneCell']) ?_)
        all_goals
          try simp only [Exit.inBlock, Exit.then]
          refine bodyPost_ret (resCellTmp rfl _ _ w.heap.size 24 #[.int .u64 (a : Nat), .int .u64 (b : Nat)] _ rfl (bk.rowT _) Try.underlying24 rfl (by rfl)) rfl ?_
          exact ⟨rfl, hb.trans (below_rowT wr (Nat.le_refl _) _)⟩
      · rw [if_neg (by omega)] at hr
        subst hr
        obtain ⟨rfl, hz⟩ := hz
        have z1 : ((b : Int) == 0) = false := by rw [beq_eq_false_iff_ne]; omega
        go_wp2_with (refine wpList_store_row rfl 24 (.tmp 2) (.tmp 72) rfl w.heap.size #[.int .u64 0, .int .u64 (b : Nat)] rfl rfl 24 #[.int .u64 0, .int .u64 0] bk (by rfl) rfl (by simp [Value.oneCell']) ?_)
        all_goals
          try simp only [Exit.inBlock, Exit.then]
          refine bodyPost_ret (resCellTmp rfl _ _ w.heap.size 24 #[.int .u64 0, .int .u64 (b : Nat)] _ rfl (bk.rowT _) Try.underlying24 rfl (by rfl)) rfl ?_
          exact ⟨rfl, hb.trans (below_rowT wr (Nat.le_refl _) _)⟩
end Go.Proofs.Ytohnpogoldbplaa
