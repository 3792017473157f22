/- Spans: bootprintkit.SameSpan of two equal spans. -/
import Derived.Deep.QuietTactic
import Derived.Deep.Cut
import Derived.Test.YtlamebbolioljaaSpM
namespace Go.Proofs.Ytlamebbolioljaa
open Go.RowKit

theorem strEq_of {s t : ByteArray} : (s.toList == t.toList) = decide (s = t) := by
  rw [ByteArray.toList_eq, ByteArray.toList_eq, Bool.eq_iff_iff, beq_iff_eq, decide_eq_true_iff]
  exact ⟨fun h => ByteArray.ext (Array.ext' h), fun h => by rw [h]⟩
set_option maxRecDepth 100000 in
set_option maxHeartbeats 8000000 in
/-- Two spans whose heads are the same: their tags are held against one another. -/
theorem kitSameTags {A1 A2 : Option Addr} {c1 c2 n B : Nat} (s : Sp) (ta tb : List Tg) (w : World) (hf : RbT w B A1 ta) (hg : RbT w B A2 tb) (hn : ta.length = n) (hm : tb.length = n) (hB : B ≤ w.heap.size) (hnl : n ≤ 9223372036854775807) :
    Calls Try.prog 55 #[spV s A1 n c1, spV s A2 n c2] w fun e w' => e = .returned (.bool (decide (ta = tb))) ∧ Below w.heap.size w w' := by
  obtain ⟨q, hq⟩ : ∃ q, decide (ta = tb) = q := ⟨_, rfl⟩
  rw [hq]
  have HQT := Lib.hid hq
  have HN := Lib.hid hn
  have HM := Lib.hid hm
  clear hq hn hm
  have hb0 : Below w.heap.size w ((w.alloc (.cells (spC s A1 n c1) 43)).alloc (.cells (spC s A2 n c2) 43)) := ((Below.refl _ w).alloc (Nat.le_refl _) _).alloc (by simp) _
  have hff := Rd.below hf (hb0.mono hB)
  have hgg := Rd.below hg (hb0.mono hB)
  have bk1 := (Bk.new w 43 (spC s A1 n c1)).alloc (.cells (spC s A2 n c2) 43)
  have bk2 : Bk ((w.alloc (.cells (spC s A1 n c1) 43)).alloc (.cells (spC s A2 n c2) 43)) (w.heap.size + 1) 43 (spC s A2 n c2) := by
    have h := Bk.new (w.alloc (.cells (spC s A1 n c1) 43)) 43 (spC s A2 n c2)
    simpa using h
  obtain ⟨w1, hw1⟩ : ∃ w1, ((w.alloc (.cells (spC s A1 n c1) 43)).alloc (.cells (spC s A2 n c2) 43)) = w1 := ⟨_, rfl⟩
  rw [hw1] at hb0 hff hgg bk1 bk2
  obtain ⟨g1, hg1⟩ : ∃ g1, w.heap.size = g1 := ⟨_, rfl⟩
  obtain ⟨g2, hg2⟩ : ∃ g2, g1 + 1 = g2 := ⟨_, rfl⟩
  rw [hg1] at bk1 bk2
  rw [hg2] at bk2
  have HW := Lib.hid hw1
  have HG1 := Lib.hid hg1
  have HG2 := Lib.hid hg2
  have kg10 : w1.cell? ⟨g1, 0, none⟩ = some (.int .u64 s.hi) := bk1.cell 0
  have kg11 : w1.cell? ⟨g1, 1, none⟩ = some (.int .u64 s.lo) := bk1.cell 1
  have kg12 : w1.cell? ⟨g1, 2, none⟩ = some (.int .u64 s.id) := bk1.cell 2
  have kg13 : w1.cell? ⟨g1, 3, none⟩ = some (.int .u64 s.parent) := bk1.cell 3
  have kg14 : w1.cell? ⟨g1, 4, none⟩ = some (.string s.service) := bk1.cell 4
  have kg15 : w1.cell? ⟨g1, 5, none⟩ = some (.string s.name) := bk1.cell 5
  have kg16 : w1.cell? ⟨g1, 6, none⟩ = some (.int .i64 s.kind) := bk1.cell 6
  have kg17 : w1.cell? ⟨g1, 7, none⟩ = some (.int .i64 s.start) := bk1.cell 7
  have kg18 : w1.cell? ⟨g1, 8, none⟩ = some (.int .i64 s.length) := bk1.cell 8
  have kg19 : w1.cell? ⟨g1, 9, none⟩ = some (.bool s.fails) := bk1.cell 9
  have kg110 : w1.cell? ⟨g1, 10, none⟩ = some (.slice A1 n c1) := bk1.cell 10
  have kg20 : w1.cell? ⟨g2, 0, none⟩ = some (.int .u64 s.hi) := bk2.cell 0
  have kg21 : w1.cell? ⟨g2, 1, none⟩ = some (.int .u64 s.lo) := bk2.cell 1
  have kg22 : w1.cell? ⟨g2, 2, none⟩ = some (.int .u64 s.id) := bk2.cell 2
  have kg23 : w1.cell? ⟨g2, 3, none⟩ = some (.int .u64 s.parent) := bk2.cell 3
  have kg24 : w1.cell? ⟨g2, 4, none⟩ = some (.string s.service) := bk2.cell 4
  have kg25 : w1.cell? ⟨g2, 5, none⟩ = some (.string s.name) := bk2.cell 5
  have kg26 : w1.cell? ⟨g2, 6, none⟩ = some (.int .i64 s.kind) := bk2.cell 6
  have kg27 : w1.cell? ⟨g2, 7, none⟩ = some (.int .i64 s.start) := bk2.cell 7
  have kg28 : w1.cell? ⟨g2, 8, none⟩ = some (.int .i64 s.length) := bk2.cell 8
  have kg29 : w1.cell? ⟨g2, 9, none⟩ = some (.bool s.fails) := bk2.cell 9
  have kg210 : w1.cell? ⟨g2, 10, none⟩ = some (.slice A2 n c2) := bk2.cell 10
  have fbool : (s.fails != s.fails) = false := by simp
  clear hw1 bk1 bk2 hg1 hg2 hf hg
  go_enter Try.func55, Try.ntmps55
  go_upto_region 1 with fail
  rw [HW.out, HG1.out]
  simp only [HG2.out]
  go_wp2_with fail
  clear kg10 kg11 kg12 kg13 kg14 kg15 kg16 kg17 kg18 kg19 kg20 kg21 kg22 kg23 kg24 kg25 kg26 kg27 kg28 kg29
  have hg1l : g1 < w1.heap.size := by rw [← HG1.out, ← HW.out]; simp; omega
  have hg2l : g2 < w1.heap.size := by rw [← HG2.out, ← HG1.out, ← HW.out]; simp
  go_loopw [5] (fun iv_ wr => ∃ j : Nat, j ≤ n ∧ iv_ = .int .i64 j ∧ ta.take j = tb.take j ∧ Below w1.heap.size w1 wr) (fun i _ => n - (intOf i).toNat)
  case atStart => exact ⟨0, by omega, rfl, rfl, Below.refl _ _⟩
  case round =>
    obtain ⟨j, hj, rfl, hall, hb⟩ := hrel
    have HA := Lib.hid hall
    clear hall
    have k1' : wr.cell? ⟨g1, 10, none⟩ = some (.slice A1 n c1) := (hb.cell (p := ⟨g1, 10, none⟩) hg1l).trans kg110
    have k2' : wr.cell? ⟨g2, 10, none⟩ = some (.slice A2 n c2) := (hb.cell (p := ⟨g2, 10, none⟩) hg2l).trans kg210
    by_cases hlt : j < n
    · have hlt' : (j : Int) < (n : Int) := by omega
      have hBs : B ≤ w1.heap.size := by rw [← HW.out]; simp; omega
      obtain ⟨x, hx⟩ : ∃ x, ta[j]? = some x := ⟨_, List.getElem?_eq_getElem (by rw [HN.out]; exact hlt)⟩
      obtain ⟨y, hy⟩ : ∃ y, tb[j]? = some y := ⟨_, List.getElem?_eq_getElem (by rw [HM.out]; exact hlt)⟩
      obtain ⟨b1, o1, rfl, hbb1, c11, c12⟩ := RbT.get (Rd.below hff (hb.mono hBs)) hx
      obtain ⟨b2, o2, rfl, hbb2, c21, c22⟩ := RbT.get (Rd.below hgg (hb.mono hBs)) hy
      have HX := Lib.hid hx
      have HY := Lib.hid hy
      clear hx hy hbb1 hbb2 kg110 kg210 hg1l hg2l
      by_cases hxy : x = y
      · subst hxy
        go_wp2_with fail
        go_quiet (fail)
        go_wp2
        go_roundw
        case rel => exact ⟨j + 1, by omega, by go_num, by rw [take_snoc HX.out, take_snoc HY.out, HA.out], below_drewN hb _⟩
        case measure => simp [intOf]; omega
      · have hqf : q = false := by
          rw [← HQT.out, decide_eq_false_iff_not]
          intro h
          have h1 := HX.out
          rw [h, HY.out] at h1
          exact hxy (Option.some.inj h1).symm
        have HQF := Lib.hid hqf
        clear hqf
        by_cases hk : x.key = y.key
        · have hv : x.val ≠ y.val := fun h => hxy (by cases x; cases y; simp_all)
          have d1 : (x.key.toList == y.key.toList) = true := by rw [strEq_of]; simpa using hk
          have d2 : (x.val.toList == y.val.toList) = false := by rw [strEq_of]; simpa using hv
          clear hk hv
          go_wp2_with fail
          go_quiet (fail)
          go_wp2
          go_ret
          exact ⟨by rw [HQF.out]; rfl, hb0.trans ((below_drewN hb _).mono (by rw [← HW.out]; simp; omega))⟩
        · have d1 : (x.key.toList == y.key.toList) = false := by rw [strEq_of]; simpa using hk
          clear hk
          go_wp2_with fail
          go_quiet (fail)
          go_wp2
          go_ret
          exact ⟨by rw [HQF.out]; rfl, hb0.trans ((below_drewN hb _).mono (by rw [← HW.out]; simp; omega))⟩
    · have hlt' : decide ((j : Int) < (n : Int)) = false := by simp; omega
      go_wp2
      go_ret
      have : q = true := by
        rw [← HQT.out, decide_eq_true_iff]
        have h1 := HA.out
        rwa [List.take_of_length_le (by rw [HN.out]; omega), List.take_of_length_le (by rw [HM.out]; omega)] at h1
      exact ⟨by rw [this]; rfl, hb0.trans (hb.mono (by rw [← HW.out]; simp; omega))⟩
end Go.Proofs.Ytlamebbolioljaa
