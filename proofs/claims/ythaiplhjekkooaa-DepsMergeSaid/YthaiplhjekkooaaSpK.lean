/- Spans: Check. -/
import Derived.Test.YthaiplhjekkooaaSpC
namespace Go.Proofs.Ythaiplhjekkooaa
open Go.RowKit

theorem tagOk_at {l : List Tg} {i : Nat} {t : Tg} (h : l[i]? = some t) : tagOk l i = (nameB t.key && txtB t.val && (decide (i = 0) || match l[i - 1]? with | none => true | some u => strLt u.key t.key)) := by
  simp only [tagOk, h]
  rfl
set_option maxRecDepth 100000 in
set_option maxHeartbeats 2000000 in
/-- Check of a span that is not too long and whose head is right. -/
theorem spCheck1 {A : Option Addr} {c n B : Nat} (s : Sp) (w : World) (hf : RbT w B A s.tags) (hn : s.tags.length = n) (hB : B ≤ w.heap.size) (hnl : n ≤ 9223372036854775807) (hlong : longB s = false) (hhead : headB s = true) :
    Calls Try.prog 34 #[spV s A n c] w fun e w' => e = .returned (.int .i64 (if tagsOk s.tags n = true then 0 else 2 : Nat)) ∧ Below w.heap.size w w' := by
  have hb0 : Below w.heap.size w (w.alloc (.cells (spC s A n c) 43)) := (Below.refl _ w).alloc (Nat.le_refl _) _
  have hf1 := Rd.alloc hf hB (.cells (spC s A n c) 43)
  have bk := Bk.new w 43 (spC s A n c)
  have hs1 : (w.alloc (.cells (spC s A n c) 43)).heap.size = w.heap.size + 1 := by simp
  obtain ⟨w1, hw1⟩ : ∃ w1, w.alloc (.cells (spC s A n c) 43) = w1 := ⟨_, rfl⟩
  rw [hw1] at hb0 hf1 bk hs1
  have HW := Lib.hid hw1
  have hc := spLong (c := c) s w1 hf1 hn (by omega) hnl
  rw [hlong] at hc
  have HC := Lib.hid hc
  obtain ⟨q, hq⟩ : ∃ q, tagsOk s.tags n = q := ⟨_, rfl⟩
  rw [hq]
  have HQ := Lib.hid hq
  have HN := Lib.hid hn
  clear hw1 hc hq hn hlong
  simp only [headB, Bool.and_eq_true, Bool.or_eq_true, decide_eq_true_eq, ne_eq] at hhead
  obtain ⟨⟨⟨⟨⟨⟨⟨⟨⟨h0, h1⟩, h2⟩, h3⟩, h4⟩, h5⟩, h6⟩, h7⟩, h8⟩, h9⟩ := hhead
  have N2 := Lib.hid h2
  have N3 := Lib.hid h3
  have d1 : ((s.id : Int) != 0) = true := by rw [bne_iff_ne]; omega
  go_enter Try.func34, Try.ntmps34
  go_wp2_with fail
  rw [HW.out]
  refine HC.out.mono ?_
  rintro e w2 ⟨rfl, hb2⟩
  have hs2 := hb2.size
  have hb02 := hb0.trans (hb2.mono (by omega))
  have hf2 := (Rd.below hf1 (hb2.mono (by omega))).more (show B ≤ w2.heap.size by omega)
  have bk2 := bk.below hb2 (by omega)
  obtain ⟨g, hg⟩ : ∃ g, w.heap.size = g := ⟨_, rfl⟩
  rw [hg] at bk2 ⊢
  have k0 : w2.cell? ⟨g, 0, none⟩ = some (.int .u64 s.hi) := bk2.cell 0
  have k1 : w2.cell? ⟨g, 1, none⟩ = some (.int .u64 s.lo) := bk2.cell 1
  have k2 : w2.cell? ⟨g, 2, none⟩ = some (.int .u64 s.id) := bk2.cell 2
  have k4 : w2.cell? ⟨g, 4, none⟩ = some (.string s.service) := bk2.cell 4
  have k5 : w2.cell? ⟨g, 5, none⟩ = some (.string s.name) := bk2.cell 5
  have k6 : w2.cell? ⟨g, 6, none⟩ = some (.int .i64 s.kind) := bk2.cell 6
  have k7 : w2.cell? ⟨g, 7, none⟩ = some (.int .i64 s.start) := bk2.cell 7
  have k8 : w2.cell? ⟨g, 8, none⟩ = some (.int .i64 s.length) := bk2.cell 8
  have k10 : w2.cell? ⟨g, 10, none⟩ = some (.slice A n c) := bk2.cell 10
  clear bk hf1 hb0 HW
  have HHS := Lib.hid hs2
  have HH1 := Lib.hid hs1
  have HHB := Lib.hid hB
  have HHG := Lib.hid hg
  have HB02 := Lib.hid hb02
  have HF2 := Lib.hid hf2
  have HBK := Lib.hid bk2
  clear hs2 hs1 hB hg hb02 hf2 bk2 hf hb2 h2 h3
  have h6' : decide (s.kind ≤ 5) = true := by simpa using h5
  go_wp2_with (first
    | (go_at_call 51; refine (spName _ _).mono ?_; rintro e w' ⟨rfl, hw⟩; rw [hw]; clear hw w'; first | rw [N2.out] | rw [N3.out]))
  all_goals
    go_loopw [3, 63] (fun fv iv_ wr => ∃ j : Nat, j ≤ n ∧ iv_ = .int .i64 j ∧ fv = .bool (tagsOk s.tags j) ∧ Below w2.heap.size w2 wr) (fun _ i _ => n - (intOf i).toNat)
    case atStart => exact ⟨0, by omega, rfl, rfl, Below.refl _ _⟩
    case round =>
      obtain ⟨j, hj, rfl, rfl, hb⟩ := hrel
      obtain ⟨f, hf⟩ : ∃ f, tagsOk s.tags j = f := ⟨_, rfl⟩
      rw [hf]
      have HF := Lib.hid hf
      clear hf
      have hgl : g < w2.heap.size := by have := HHG.out; have := HHS.out; have := HH1.out; omega
      by_cases hlt : j < n
      · have hlt' : (j : Int) < (n : Int) := by omega
        obtain ⟨x, hx⟩ : ∃ x, s.tags[j]? = some x := ⟨_, List.getElem?_eq_getElem (by rw [HN.out]; exact hlt)⟩
        have hRb : Rd wr w2.heap.size A (tgs s.tags) := (Rd.more HF2.out (Nat.le_refl _)).below hb
        obtain ⟨b, o, rfl, hbb, c1, c2⟩ := RbT.get hRb hx
        have k10' : wr.cell? ⟨g, 10, none⟩ = some (.slice (some ⟨b, o, none⟩) n c) := (hb.cell (p := ⟨g, 10, none⟩) hgl).trans k10
        have HX := Lib.hid hx
        clear hx
        go_wp2_with fail
        have hsr := hb.size
        have m0 : (wr.alloc (.cells #[.string x.key, .string x.val] 90)).cell? ⟨wr.heap.size, 0, none⟩ = some (.string x.key) := (Bk.new wr 90 #[.string x.key, .string x.val]).cell 0
        have m1 : (wr.alloc (.cells #[.string x.key, .string x.val] 90)).cell? ⟨wr.heap.size, 1, none⟩ = some (.string x.val) := (Bk.new wr 90 #[.string x.key, .string x.val]).cell 1
        have k10W := (World.cell?_alloc_lt wr (.cells #[.string x.key, .string x.val] 90) ⟨g, 10, none⟩ (by simp only; omega)).trans k10'
        have hRW := Rd.alloc hRb hsr (.cells #[.string x.key, .string x.val] 90)
        have hbW := hb.alloc hsr (.cells #[.string x.key, .string x.val] 90)
        obtain ⟨W, hW⟩ : ∃ W, wr.alloc (.cells #[.string x.key, .string x.val] 90) = W := ⟨_, rfl⟩
        rw [hW] at m0 m1 k10W hRW hbW ⊢
        obtain ⟨r, hr⟩ : ∃ r, wr.heap.size = r := ⟨_, rfl⟩
        rw [hr] at m0 m1 ⊢
        have HHRW := Lib.hid hRW
        have HBW := Lib.hid hbW
        clear hW hr hsr hRW hbW hRb hb hgl
        have hstep : tagsOk s.tags (j + 1) = (f && (nameB x.key && txtB x.val && (decide (j = 0) || match s.tags[j - 1]? with | none => true | some u => strLt u.key x.key))) := by
          rw [tagsOk_succ, HF.out, tagOk_at HX.out]
        by_cases hft : f = false
        · subst hft
          have HST : Hid (tagsOk s.tags (j + 1) = false) := by rw [hstep]; rfl
          clear hstep
          go_quiet (fail)
          go_wp2
          go_roundw
          case rel => exact ⟨j + 1, by omega, by go_num, by rw [HST.out], below_drewN HBW.out _⟩
          case measure => simp [intOf]; omega
        obtain rfl : f = true := by simpa using hft
        obtain ⟨n1, hn1⟩ : ∃ n1, nameB x.key = n1 := ⟨_, rfl⟩
        have cN : ∀ W', Calls Try.prog 51 #[.string x.key] W' fun e w' => e = .returned (.bool n1) ∧ w' = W' := by intro W'; have := spName W' x.key; rwa [hn1] at this
        rw [hn1] at hstep
        clear hn1 hft
        cases n1 with
        | false =>
          have HST : Hid (tagsOk s.tags (j + 1) = false) := by rw [hstep]; rfl
          clear hstep
          go_quiet ((go_at_call 51; go_loud (exact Calls.quiet_of_same (cN _))))
          go_wp2
          go_roundw
          case rel => exact ⟨j + 1, by omega, by go_num, by rw [HST.out], below_drewN HBW.out _⟩
          case measure => simp [intOf]; omega
        | true =>
        obtain ⟨t1, ht1⟩ : ∃ t1, txtB x.val = t1 := ⟨_, rfl⟩
        have cT : ∀ W', Calls Try.prog 41 #[.string x.val] W' fun e w' => e = .returned (.bool t1) ∧ w' = W' := by intro W'; have := spText W' x.val; rwa [ht1] at this
        rw [ht1] at hstep
        clear ht1
        cases t1 with
        | false =>
          have HST : Hid (tagsOk s.tags (j + 1) = false) := by rw [hstep]; rfl
          clear hstep
          go_quiet (first
            | (go_at_call 51; go_loud (exact Calls.quiet_of_same (cN _)))
            | (go_at_call 41; go_loud (exact Calls.quiet_of_same (cT _))))
          go_wp2
          go_roundw
          case rel => exact ⟨j + 1, by omega, by go_num, by rw [HST.out], below_drewN HBW.out _⟩
          case measure => simp [intOf]; omega
        | true =>
        cases j with
        | zero =>
          have HST : Hid (tagsOk s.tags (0 + 1) = true) := by rw [hstep]; rfl
          clear hstep
          go_quiet (first
            | (go_at_call 51; go_loud (exact Calls.quiet_of_same (cN _)))
            | (go_at_call 41; go_loud (exact Calls.quiet_of_same (cT _))))
          go_wp2
          go_roundw
          case rel => exact ⟨0 + 1, by omega, by go_num, by rw [HST.out], below_drewN HBW.out _⟩
          case measure => simp [intOf]; omega
        | succ k =>
          obtain ⟨u, hu⟩ : ∃ u, s.tags[k]? = some u := ⟨_, List.getElem?_eq_getElem (by rw [HN.out]; omega)⟩
          obtain ⟨b', o', e', _, p1, _⟩ := RbT.get HHRW.out hu
          cases e'
          have e1 : (k : Int) + 1 - 1 = (k : Int) := by omega
          have e2 : ((k : Int) + 1 == 0) = false := by rw [beq_eq_false_iff_ne]; omega
          have hkn : (k : Int) < (n : Int) := by omega
          have hkn' : k < n := by omega
          have hst : tagsOk s.tags (k + 1 + 1) = strLt u.key x.key := by rw [hstep, show k + 1 - 1 = k from rfl, hu]; simp
          have HST := Lib.hid hst
          clear hst
          clear hstep hu c1 c2
          go_quiet (first
            | (go_at_call 51; go_loud (exact Calls.quiet_of_same (cN _)))
            | (go_at_call 41; go_loud (exact Calls.quiet_of_same (cT _))))
          go_wp2
          go_roundw
          case rel => exact ⟨k + 1 + 1, by omega, by go_num, by rw [HST.out]; rfl, below_drewN HBW.out _⟩
          case measure => simp [intOf]; omega
      · have hlt' : decide ((j : Int) < (n : Int)) = false := by simp; omega
        obtain rfl : j = n := by omega
        have hqf : f = q := by rw [← HF.out, HQ.out]
        subst hqf
        cases f
        · go_wp2
          go_ret
          exact ⟨rfl, HB02.out.trans (hb.mono (by have := HHS.out; have := HH1.out; omega))⟩
        · go_wp2
          go_ret
          exact ⟨rfl, HB02.out.trans (hb.mono (by have := HHS.out; have := HH1.out; omega))⟩
end Go.Proofs.Ythaiplhjekkooaa
