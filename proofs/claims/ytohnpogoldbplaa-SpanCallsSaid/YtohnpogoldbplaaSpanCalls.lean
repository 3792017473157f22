/- The statement SpanCalls: any two spans are checked, compared and told as the document says. The walk. -/
import Derived.Deep.Cut
import Derived.Test.YtohnpogoldbplaaSpO
import Derived.Test.YtohnpogoldbplaaSrL
namespace Go.Proofs.Ytohnpogoldbplaa
open Go.RowKit
attribute [local go_sem ↓] loadK_shut

set_option maxRecDepth 100000 in
set_option maxHeartbeats 16000000 in
theorem spanCalls_walk {A1 A2 : Option Addr} {c1 c2 n m : Nat} (a b : Sp) (s : ByteArray) (w : World) (hf : RbT w w.heap.size A1 a.tags) (hg : RbT w w.heap.size A2 b.tags) (hn : a.tags.length = n) (hm : b.tags.length = m)
    (hnl2 : n ≤ 9223372036854775807) (hml : m ≤ 9223372036854775807) (hu : a.U64) (hs : s.size ≤ maxLen) :
    Calls Try.prog 5 #[spV a A1 n c1, spV b A2 m c2, .string s] w fun e w' => e = .returned (.bool true) ∧ Below w.heap.size w w' := by
  have hb0 : Below w.heap.size w ((w.alloc (.cells (spC a A1 n c1) 27)).alloc (.cells (spC b A2 m c2) 27)) := ((Below.refl _ w).alloc (Nat.le_refl _) _).alloc (by simp) _
  have bk1 := (Bk.new w 27 (spC a A1 n c1)).alloc (.cells (spC b A2 m c2) 27)
  have bk2 := Bk.new (w.alloc (.cells (spC a A1 n c1) 27)) 27 (spC b A2 m c2)
  rw [World.size_alloc] at bk2
  have sc : Sc w ((w.alloc (.cells (spC a A1 n c1) 27)).alloc (.cells (spC b A2 m c2) 27)) w.heap.size w.heap.size a b A1 n c1 A2 m c2 :=
    ⟨hb0, Rd.below hf hb0, Rd.below hg hb0, bk1, bk2, hb0.size⟩
  obtain ⟨w1, hw1⟩ : ∃ w1, (w.alloc (.cells (spC a A1 n c1) 27)).alloc (.cells (spC b A2 m c2) 27) = w1 := ⟨_, rfl⟩
  rw [hw1] at sc
  have HW := Lib.hid hw1
  obtain ⟨B, hB⟩ : ∃ B, w.heap.size = B := ⟨_, rfl⟩
  rw [hB] at sc
  have HBB := Lib.hid hB
  have hnl0 : smallB a 1000 = true → n ≤ 4398046511104 := fun h => by
    simp only [smallB, Bool.and_eq_true, decide_eq_true_eq] at h
    have := h.1.2
    omega
  obtain ⟨qa, hqa⟩ : ∃ q, smallB a 1000 = q := ⟨_, rfl⟩
  obtain ⟨qb, hqb⟩ : ∃ q, smallB b 1000 = q := ⟨_, rfl⟩
  rw [hqa] at hnl0
  have HNL := Lib.hid hnl0
  have HQA := Lib.hid hqa
  have HQB := Lib.hid hqb
  have HN := Lib.hid hn
  have HM := Lib.hid hm
  have HU := Lib.hid hu
  obtain ⟨cp, ce, fa, hcv, hce⟩ := conv_str2
  have HCE := Lib.hid hce
  clear hnl0 hw1 hB hqa hqb hn hm hf hg hb0 bk1 bk2 hu hce
  go_enter Try.func5, Try.ntmps5
  go_upto_region 1 with fail
  rw [HW.out, HBB.out]
  go_wp2_with fail
  refine (lawLives w1).mono ?_
  rintro e w2 ⟨rfl, hb⟩
  have sc := sc.below hb
  clear hb
  have ba := sc.ba
  go_wp2_with (refine wpList_load_row rfl 27 (.tmp 3) rfl B rfl 27 (spC a A1 n c1) (0, 0) _ ba Try.underlying27 rfl (by rfl) ?_)
  refine (kitSmall (c := c1) a 1000 w2 sc.ra HN.out sc.hB hnl2).mono ?_
  rintro e w3 ⟨rfl, hb⟩
  rw [HQA.out]
  have sc := sc.below hb
  clear hb ba
  cases qa with
  | false =>
    go_wp2
    go_ret
    exact ⟨rfl, sc.bel⟩
  | true =>
  have hnl := HNL.out rfl
  have lb := loadK_sp sc.bb
  go_wp2_with fail
  refine (kitSmall (c := c2) b 1000 w3 sc.rb HM.out sc.hB hml).mono ?_
  rintro e w4 ⟨rfl, hb⟩
  rw [HQB.out]
  have sc := sc.below hb
  clear hb lb
  cases qb with
  | false =>
    go_wp2
    go_ret
    exact ⟨rfl, sc.bel⟩
  | true =>
  by_cases h1000 : 1000 < s.size
  · have d1 : (1000 : Int) < (s.size : Int) := by omega
    go_wp2
    go_ret
    exact ⟨rfl, sc.bel⟩
  have d1 : decide ((1000 : Int) < (s.size : Int)) = false := by simp; omega
  have hs1000 : s.size ≤ 1000 := by omega
  have ba := (sc.alloc (.cells (ce w4 s) 5 (fa w4 s))).drew.ba
  go_wp2_with (refine wpList_load_row rfl 27 (.tmp 3) rfl B rfl 27 (spC a A1 n c1) (0, 0) _ ba Try.underlying27 rfl (by rfl) ?_)
  have ho := HCE.out s w4 hs
  have sc5 := (sc.alloc (.cells (ce w4 s) 5 (fa w4 s))).drew
  have hr := Rd.drew ho.rd
  refine (spAppendX (n := s.size) (zs := nums s) (B := ((w4.alloc (.cells (ce w4 s) 5 (fa w4 s))).drew).heap.size) a _ hr (Nat.le_refl _) (by rw [nums_len]; omega) (fun h => by cases h) (nums_len s) (Rd.more sc5.ra sc5.hB) HN.out hnl2 HU.out).mono ?_
  rintro e w5 ⟨Ax, cx, rfl, rx, hb⟩
  have sc := sc5.below hb
  obtain ⟨k, hk⟩ : ∃ k, spChk a = k := ⟨_, rfl⟩
  obtain ⟨X, hX⟩ : ∃ X, appX (nums s) a = X := ⟨_, rfl⟩
  rw [hk, hX]
  rw [hX] at rx
  have HK := Lib.hid hk
  have HX := Lib.hid hX
  clear sc5 hr hb ho ba hk hX
  have ba := (sc.alloc (.cells (ce w5 s) 5 (fa w5 s))).drew.ba
  go_wp2_with (refine wpList_load_row rfl 27 (.tmp 3) rfl B rfl 27 (spC a A1 n c1) (0, 0) _ ba Try.underlying27 rfl (by rfl) ?_)
  have ho := HCE.out s w5 hs
  have sc6 := (sc.alloc (.cells (ce w5 s) 5 (fa w5 s))).drew
  have ho6 : ownsT (w5.alloc (.cells (ce w5 s) 5 (fa w5 s))).drew w5.heap.size 5 1 (.slice (some ⟨w5.heap.size, 0, none⟩) s.size (cp w5 s)) s.size (bv (nums s)) := ((AppT.refl ho).drew).own
  refine (rAppendX (base := w5.heap.size) (zs := nums s) a _ ho6 (by show w5.heap.size ≤ (w5.alloc _).heap.size; simp) (by omega) sc.hB sc6.ra HN.out hnl2 HU.out).mono ?_
  rintro e w6 ⟨Ay, cy, rfl, ry, hb⟩
  rw [HK.out, HX.out]
  rw [HX.out] at ry
  have hb56 : Below w5.heap.size w5 w6 := ((below_drewN ((Below.refl _ w5).alloc (Nat.le_refl _) (.cells (ce w5 s) 5 (fa w5 s))) 1)).trans hb
  have sc := sc.below hb56
  have rx := rx.bS hb56
  clear sc6 ho6 hb ho ba hb56
  go_wp2_with fail
  refine (spParseTrace w6 s).mono ?_
  rintro e w7 ⟨rfl, hb⟩
  have sc := sc.below hb
  have rx := rx.bS hb
  have ry := ry.bS hb
  obtain ⟨p, hp⟩ : ∃ p, ptOf s = p := ⟨_, rfl⟩
  rw [hp]
  have HP := Lib.hid hp
  clear hb hp
  go_wp2_with fail
  have hbt : Below w7.heap.size w7 (w7.alloc (.cells #[.int .u64 (p.1 : Nat), .int .u64 (p.2.1 : Nat)] 24)) := (Below.refl _ w7).alloc (Nat.le_refl _) _
  have sc := sc.below hbt
  have rx := rx.bS hbt
  have ry := ry.bS hbt
  have bt := Bk.new w7 24 #[.int .u64 (p.1 : Nat), .int .u64 (p.2.1 : Nat)]
  refine (rParseTrace _ s).mono ?_
  rintro e w8 ⟨rfl, hb⟩
  have sc := sc.below hb
  have rx := rx.bS hb
  have ry := ry.bS hb
  have bt := bt.bS hb
  obtain ⟨gt, hgt⟩ : ∃ gt, w7.heap.size = gt := ⟨_, rfl⟩
  rw [hgt] at bt ⊢
  rw [HP.out]
  clear hb hbt hgt
  have hbt : Below w8.heap.size w8 (w8.alloc (.cells #[.int .u64 (p.1 : Nat), .int .u64 (p.2.1 : Nat)] 24)) := (Below.refl _ w8).alloc (Nat.le_refl _) _
  have scv := sc.below hbt
  have rxv := rx.bS hbt
  have ryv := ry.bS hbt
  have btv := bt.bS hbt
  have bu := Bk.new w8 24 #[.int .u64 (p.1 : Nat), .int .u64 (p.2.1 : Nat)]
  obtain ⟨gu, hgu⟩ : ∃ gu, w8.heap.size = gu := ⟨_, rfl⟩
  rw [hgu] at bu
  obtain ⟨w9, hw9⟩ : ∃ w9, w8.alloc (.cells #[.int .u64 (p.1 : Nat), .int .u64 (p.2.1 : Nat)] 24) = w9 := ⟨_, rfl⟩
  rw [hw9] at scv rxv ryv btv bu
  have HW9 := Lib.hid hw9
  have HGU := Lib.hid hgu
  clear hbt sc rx ry bt hw9 hgu
  have ba := scv.ba
  go_upto_region 9 with fail
  rw [HW9.out, HGU.out]
  go_wp2_with (refine wpList_load_row rfl 27 (.tmp 3) rfl B rfl 27 (spC a A1 n c1) (0, 0) _ ba Try.underlying27 rfl (by rfl) ?_)
  refine (spTag (c := c1) a s w9 scv.ra HN.out scv.hB hnl2).mono ?_
  rintro e w10 ⟨rfl, hb⟩
  have sc := scv.below hb
  have rx := rxv.bS hb
  have ry := ryv.bS hb
  have bt := btv.bS hb
  have bu := bu.bS hb
  obtain ⟨tv, htv⟩ : ∃ tv, tagVal a.tags s = tv := ⟨_, rfl⟩
  obtain ⟨ti, hti⟩ : ∃ ti, tagIs a.tags s = ti := ⟨_, rfl⟩
  rw [htv, hti]
  have HTV := Lib.hid htv
  have HTI := Lib.hid hti
  clear hb htv hti scv rxv ryv btv ba
  have ba := sc.ba
  go_wp2_with (refine wpList_load_row rfl 27 (.tmp 3) rfl B rfl 27 (spC a A1 n c1) (0, 0) _ ba Try.underlying27 rfl (by rfl) ?_)
  refine (rTag (c := c1) a s w10 sc.ra HN.out sc.hB hnl2).mono ?_
  rintro e w11 ⟨rfl, hb⟩
  have sc := sc.below hb
  have rx := rx.bS hb
  have ry := ry.bS hb
  have bt := bt.bS hb
  have bu := bu.bS hb
  rw [HTV.out, HTI.out]
  clear hb ba
  have se20 : Se w w11.drew B B a b A1 n c1 A2 m c2 Ax Ay X gt gu (.int .u64 (p.1 : Nat)) (.int .u64 (p.2.1 : Nat)) := Se.drew ⟨sc, rx, ry, bt, bu⟩
  clear sc rx ry bt bu
  obtain ⟨hu1, hu2, hu3, hu4⟩ := HU.out
  go_upto_region 11 with fail
  simp only [List.append]
  go_region_held3 (fun w' => ((loadK 27 ⟨B, 0, none⟩).run Try.prog w' = .ok (spV a A1 n c1) w' ∧ (loadK 27 ⟨B + 1, 0, none⟩).run Try.prog w' = .ok (spV b A2 m c2) w' ∧ (loadK 24 ⟨B, 0, none⟩).run Try.prog w' = .ok (.agg #[.int .u64 a.hi, .int .u64 a.lo]) w' ∧ (loadK 22 ⟨B, 2, none⟩).run Try.prog w' = .ok (.int .u64 a.id) w' ∧ (loadK 24 ⟨gt, 0, none⟩).run Try.prog w' = .ok (.agg #[.int .u64 (p.1 : Nat), .int .u64 (p.2.1 : Nat)]) w' ∧ (loadK 24 ⟨gu, 0, none⟩).run Try.prog w' = .ok (.agg #[.int .u64 (p.1 : Nat), .int .u64 (p.2.1 : Nat)]) w') ∧ ((convert 28 9 (.slice Ax X.length cx)).run Try.prog w' = .ok (.string (strOfNums X)) w' ∧ (convert 28 9 (.slice Ay X.length cy)).run Try.prog w' = .ok (.string (strOfNums X)) w'))
    (exact ⟨Se.loads (by assumption), Se.conv (by assumption) _ _⟩)
    (first
      | (go_at_call 14
         refine (spCheck (c := c1) a _ se20.sc.ra HN.out se20.sc.hB hnl2).mono ?_
         rintro e w21 ⟨rfl, hb21⟩
         rw [HK.out]
         have se21 := se20.below hb21)
      | (go_at_call 19
         refine (rCheck (c := c1) a _ se21.sc.ra HN.out se21.sc.hB hnl2).mono ?_
         rintro e w22 ⟨rfl, hb22⟩
         rw [HK.out]
         have se22 := se21.below hb22)
      | (go_at_call 20
         refine (spText _ s).mono ?_
         rintro e w' ⟨rfl, hw⟩
         rw [hw]
         clear hw w')
      | (go_at_call 21
         refine (rTxt _ s).mono ?_
         rintro e w' ⟨rfl, hw⟩
         rw [hw]
         clear hw w')
      | (go_at_call 22
         refine (spCompare (c1 := c1) (c2 := c2) a b _ se22.sc.ra se22.sc.rb HN.out HM.out se22.sc.hB hnl2 hml).mono ?_
         rintro e w23 ⟨rfl, hb23⟩
         have se23 := se22.below hb23)
      | (go_at_call 23
         refine (rCompare (c1 := c1) (c2 := c2) a b _ se23.sc.ra se23.sc.rb HN.out HM.out se23.sc.hB hnl2 hml).mono ?_
         rintro e w24 ⟨rfl, hb24⟩
         have se24 := se23.below hb24)
      | (go_at_call 24
         refine (spSame (c1 := c1) (c2 := c2) a b _ se24.sc.ra se24.sc.rb HN.out HM.out se24.sc.hB hnl2 hml).mono ?_
         rintro e w25 ⟨rfl, hb25⟩
         have se25 := se24.below hb25)
      | (go_at_call 25
         refine (rSame (c1 := c1) (c2 := c2) a b _ se25.sc.ra se25.sc.rb HN.out HM.out se25.sc.hB hnl2 hml).mono ?_
         rintro e w26 ⟨rfl, hb26⟩
         have se26 := se25.below hb26)
      | (go_at_call 26
         refine (spTraceText _ hu1 hu2).mono ?_
         rintro e w27 ⟨rfl, hb27⟩
         have se27 := se26.below hb27)
      | (go_at_call 27
         refine (rTraceText _ hu1 hu2).mono ?_
         rintro e w28 ⟨rfl, hb28⟩
         have se28 := se27.below hb28)
      | (go_at_call 28
         refine (spIDText _ hu3).mono ?_
         rintro e w29 ⟨rfl, hb29⟩
         have se29 := se28.below hb29)
      | (go_at_call 29
         refine (rIDText _ hu3).mono ?_
         rintro e w' ⟨rfl, hw⟩
         rw [hw]
         clear hw w')
      | (go_at_call 30
         refine (spCopy (c := c1) a _ se29.sc.ra HN.out se29.sc.hB hnl).mono ?_
         rintro e w30 ⟨Az, cz, rfl, rz, hb30, -, -, -⟩
         have se30 := se29.below hb30)
      | (go_at_call 11
         refine (kitSame (c1 := cz) (c2 := c1) (B := w30.heap.size) a a _ rz (Rd.more se30.sc.ra se30.sc.hB) HN.out HN.out (Nat.le_refl _) hnl2 hnl2).mono ?_
         rintro e w31 ⟨rfl, hb31⟩
         have se31 := se30.below hb31)
      | fail)
  all_goals
    go_wp2
    go_ret
    exact ⟨by simp, se31.sc.bel⟩
theorem spanCalls_in (a : Sp) (A1 : Option Addr) (n c1 : Nat) (b : Sp) (A2 : Option Addr) (m c2 : Nat) (s : ByteArray) (W : World) (ha : InSp W a A1 n c1) (hb : InSp W b A2 m c2) (hs : s.size ≤ maxLen) :
    Calls Try.prog 5 #[spV a A1 n c1, spV b A2 m c2, .string s] W fun e w' => e = .returned (.bool true) ∧ Below W.heap.size W w' :=
  spanCalls_walk a b s W ha.tags.rd hb.tags.rd ha.tags.len hb.tags.len (by have := ha.tags.cap; have := ha.tags.max; simp only [maxLen] at this; omega) (by have := hb.tags.cap; have := hb.tags.max; simp only [maxLen] at this; omega) ha.u64 hs
end Go.Proofs.Ytohnpogoldbplaa
