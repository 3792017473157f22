/- Texts of the proof of DepsNamesSaid, joined: DeW DeX DeO DeT. -/
import Derived.BigRegion
import Derived.Deep.RegionHeld3
import Derived.Test.YthaiplhjekkooaaJDepsNames4
import Derived.Test.YthaiplhjekkooaaJDepsNames5
import Derived.Test.YthaiplhjekkooaaJDepsNames8
import Derived.Test.YthaiplhjekkooaaJDepsNames1
import Derived.Laws.ResultCell
import Derived.Test.YthaiplhjekkooaaJDepsNames6
/- The document's Check of layer 24. (Printed by wip/tools/genDeW.py.) -/
namespace Go.Proofs.Ythaiplhjekkooaa
open Go.RowKit
theorem loadEd_shutW (a : Addr) : loadVar 47 a = loadK 47 a := rfl
attribute [local go_sem ↓] loadEd_shutW

theorem edWrong_lt {l : List Ed} {k : Nat} {x p : Ed} (hx : l[k + 1]? = some x) (hp : l[k]? = some p) (hf : edFine x = true) : edWrong l (k + 1) = !edLt p x := by
  rw [Bool.eq_iff_iff]
  have h := edWrong_iff hx
  rw [← Bool.not_eq_true] at h
  cases hl : edLt p x with
  | true =>
    have : edWrong l (k + 1) = false := (edWrong_iff hx).2 ⟨hf, fun k' p' hk hp' => by
      cases hk
      rw [hp] at hp'
      cases hp'
      exact hl⟩
    simp [this]
  | false =>
    cases hw : edWrong l (k + 1) with
    | true => simp
    | false =>
      have := ((edWrong_iff hx).1 hw).2 k p rfl hp
      rw [hl] at this
      cases this
set_option maxRecDepth 100000 in
set_option maxHeartbeats 8000000 in
theorem rDeCheck {A : Option Addr} {n c B : Nat} (l : List Ed) (w : World) (h : RbD w B A l) (hn : l.length = n) (hB : B ≤ w.heap.size) (hnl : n ≤ 9223372036854775807) :
    Calls Try.prog 30 #[.slice A n c] w fun e w' => e = .returned (.int .i64 (edChk l)) ∧ Below w.heap.size w w' := by
  obtain ⟨r, hr⟩ : ∃ r, edChk l = r := ⟨_, rfl⟩
  rw [hr]
  rw [edChk] at hr
  have HR := Lib.hid hr
  have HN := Lib.hid hn
  have HH := Lib.hid h
  clear hr hn h
  go_enter Try.func30, Try.ntmps30
  go_wp2_with fail
  go_loopw [3] (fun i_ wr => ∃ i : Nat, i ≤ n ∧ i_ = .int .i64 i ∧ Hid (edWrongTo l i = false) ∧ Hid (Below w.heap.size w wr)) (fun i_ _ => n - (intOf i_).toNat)
  case atStart => exact ⟨0, by omega, rfl, Lib.hid rfl, Lib.hid (Below.refl _ _)⟩
  case round =>
    obtain ⟨i, hi, rfl, HG, HB⟩ := hrel
    by_cases hlt : i < n
    · have hlt' : (i : Int) < (n : Int) := by omega
      obtain ⟨x, hx⟩ : ∃ x, l[i]? = some x := ⟨_, List.getElem?_eq_getElem (by rw [HN.out]; exact hlt)⟩
      obtain ⟨b1, o1, eA, hbb, hc1⟩ := RbD.at (Rd.below HH.out (HB.out.mono hB)) hx
      subst eA
      have hld := loadK_ed hc1
      have bk := Bk.new wr 47 (edA x)
      have hb2 := HB.out.alloc HB.out.size (.cells (edA x) 47)
      have HX := Lib.hid hx
      have HFALL := Lib.hid (fun hf : edFine x = false => show r = 2 by rw [← HR.out, if_pos (edWrong_fall hx hf)])
      clear hc1
      obtain ⟨W4, hW4⟩ : ∃ W4, wr.alloc (.cells (edA x) 47) = W4 := ⟨_, rfl⟩
      obtain ⟨g, hg⟩ : ∃ g, wr.heap.size = g := ⟨_, rfl⟩
      rw [hW4] at bk hb2
      rw [hg] at bk
      have HW4 := Lib.hid hW4
      have HG4 := Lib.hid hg
      obtain ⟨xb, xf, xt, xn⟩ := x
      have CL := Lib.hid (fun W (hW : Below W4.heap.size W4 W) => show W.cell? ⟨g, 1, none⟩ = some (.string xf) ∧ W.cell? ⟨g, 2, none⟩ = some (.string xt) ∧ W.cell? ⟨g, 3, none⟩ = some (.int .u64 xn) ∧ (loadK 47 ⟨g, 0, none⟩).run Try.prog W = .ok (edV ⟨xb, xf, xt, xn⟩) W by
        have bk2 := bk.below hW bk.lt
        exact ⟨bk2.cell 1, bk2.cell 2, bk2.cell 3, loadK_edB bk2⟩)
      have HB2 := Lib.hid hb2
      have HBD := Lib.hid (below_drewN (Below.refl W4.heap.size W4) 1)
      have hcond : edFine ⟨xb, xf, xt, xn⟩ = (decide (xf ≠ ⟨#[]⟩) && decide (xt ≠ ⟨#[]⟩) && decide (xf ≠ xt) && txtB xf && txtB xt && decide (1 ≤ xn)) := rfl
      obtain ⟨fb, hfb⟩ : ∃ fb, edFine ⟨xb, xf, xt, xn⟩ = fb := ⟨_, rfl⟩
      rw [hfb] at hcond
      have HFB := Lib.hid hfb
      have HC := Lib.hid hcond
      have e0 : (⟨#[]⟩ : ByteArray).toList = [] := by rw [ByteArray.toList_eq]
      have t1 := fun W => rTxt W xf
      have t2 := fun W => rTxt W xt
      obtain ⟨b4, hb4⟩ : ∃ b4, txtB xf = b4 := ⟨_, rfl⟩
      obtain ⟨b5, hb5⟩ : ∃ b5, txtB xt = b5 := ⟨_, rfl⟩
      simp only [hb4] at t1
      simp only [hb5] at t2
      have T1 := Lib.hid t1
      have T2 := Lib.hid t2
      have HCC := Lib.hid (show fb = (decide (xf ≠ ⟨#[]⟩) && decide (xt ≠ ⟨#[]⟩) && decide (xf ≠ xt) && b4 && b5 && decide (1 ≤ xn)) by rw [← hb4, ← hb5]; exact HC.out)
      have HFALL2 := Lib.hid (fun h : fb = false => HFALL.out (HFB.out.trans h))
      clear hb4 hb5 HC HFALL hcond hfb hx bk hb2 hW4 hg t1 t2
      go_upto_region 5 with fail
      rw [HW4.out, HG4.out]
      · obtain ⟨k1, k2, k3, -⟩ := CL.out _ (Below.refl _ _)
        by_cases h1 : xf = ⟨#[]⟩
        · have hr2 : r = 2 := HFALL2.out (by rw [HCC.out]; simp [h1])
          subst h1
          have h1' : ((⟨#[]⟩ : ByteArray).toList == []) = true := by rw [e0]; rfl
          subst hr2
          go_wp2_with fail
          go_quiet (fail)
          go_wp2_with fail
          go_ret
          exact ⟨rfl, below_drewN HB2.out _⟩
        have h1' : (xf.toList == []) = false := by rw [← e0, strEq_of', decide_eq_false h1]
        by_cases h2 : xt = ⟨#[]⟩
        · have hr2 : r = 2 := HFALL2.out (by rw [HCC.out]; simp [h2])
          subst h2
          have h2' : ((⟨#[]⟩ : ByteArray).toList == []) = true := by rw [e0]; rfl
          subst hr2
          go_wp2_with fail
          go_quiet (fail)
          go_wp2_with fail
          go_ret
          exact ⟨rfl, below_drewN HB2.out _⟩
        have h2' : (xt.toList == []) = false := by rw [← e0, strEq_of', decide_eq_false h2]
        cases b4 with
        | false =>
          have hr2 : r = 2 := HFALL2.out (by rw [HCC.out]; simp)
          subst hr2
          go_wp2_with fail
          go_quiet (first
            | (go_at_call_of 47 (Value.string xf); go_loud (exact Calls.quiet_of_same (T1.out _)))
            | (go_at_call_of 47 (Value.string xt); go_loud (exact Calls.quiet_of_same (T2.out _))))
          go_wp2_with fail
          go_ret
          exact ⟨rfl, below_drewN HB2.out _⟩
        | true =>
        cases b5 with
        | false =>
          have hr2 : r = 2 := HFALL2.out (by rw [HCC.out]; simp)
          subst hr2
          go_wp2_with fail
          go_quiet (first
            | (go_at_call_of 47 (Value.string xf); go_loud (exact Calls.quiet_of_same (T1.out _)))
            | (go_at_call_of 47 (Value.string xt); go_loud (exact Calls.quiet_of_same (T2.out _))))
          go_wp2_with fail
          go_ret
          exact ⟨rfl, below_drewN HB2.out _⟩
        | true =>
        by_cases h3 : xf = xt
        · have h3' : (xf.toList == xt.toList) = true := by rw [strEq_of', decide_eq_true h3]
          have hr2 : r = 2 := HFALL2.out (by rw [HCC.out]; simp [h3])
          subst hr2
          go_wp2_with fail
          go_quiet (first
            | (go_at_call_of 47 (Value.string xf); go_loud (exact Calls.quiet_of_same (T1.out _)))
            | (go_at_call_of 47 (Value.string xt); go_loud (exact Calls.quiet_of_same (T2.out _))))
          go_wp2_with fail
          go_ret
          exact ⟨rfl, below_drewN HB2.out _⟩
        have h3' : (xf.toList == xt.toList) = false := by rw [strEq_of', decide_eq_false h3]
        by_cases h6 : (xn : Int) < 1
        · have hr2 : r = 2 := HFALL2.out (by rw [HCC.out]; simp; omega)
          subst hr2
          go_wp2_with fail
          go_quiet (first
            | (go_at_call_of 47 (Value.string xf); go_loud (exact Calls.quiet_of_same (T1.out _)))
            | (go_at_call_of 47 (Value.string xt); go_loud (exact Calls.quiet_of_same (T2.out _))))
          go_wp2_with fail
          go_ret
          exact ⟨rfl, below_drewN HB2.out _⟩
        have h6' : decide ((xn : Int) < 1) = false := by simp; omega
        have hfb : fb = true := by rw [HCC.out]; simp [h1, h2, h3]; omega
        subst hfb
        rcases Nat.eq_zero_or_pos i with h0 | h0
        · subst h0
          rw [show ((0 : Nat) : Int) = 0 from rfl]
          go_wp2_with fail
          go_quiet (first
            | (go_at_call_of 47 (Value.string xf); go_loud (exact Calls.quiet_of_same (T1.out _)))
            | (go_at_call_of 47 (Value.string xt); go_loud (exact Calls.quiet_of_same (T2.out _))))
          go_wp2_with fail
          exact ⟨⟨1, by omega, rfl, Lib.hid (by rw [edWrongTo_succ, HG.out, edWrong, HX.out]; simp [HFB.out]), Lib.hid (below_drewN HB2.out _)⟩, by simp only [intOf]; omega⟩
        · obtain ⟨k, hk⟩ : ∃ k, i = k + 1 := ⟨i - 1, by omega⟩
          obtain ⟨p, hp⟩ : ∃ p, l[k]? = some p := ⟨_, List.getElem?_eq_getElem (by rw [HN.out]; omega)⟩
          obtain ⟨b1', o1', e1, -, hc2⟩ := RbD.at (Rd.below HH.out (HB2.out.mono hB)) hp
          cases e1
          have u1 : ∀ z : BelowBy W4, z.w.cell? ⟨g, 1, none⟩ = some (.string xf) := fun z => (CL.out z.w z.h).1
          have u2 : ∀ z : BelowBy W4, z.w.cell? ⟨g, 2, none⟩ = some (.string xt) := fun z => (CL.out z.w z.h).2.1
          have u3 : ∀ z : BelowBy W4, z.w.cell? ⟨g, 3, none⟩ = some (.int .u64 xn) := fun z => (CL.out z.w z.h).2.2.1
          have u4 : ∀ z : BelowBy W4, (loadK 47 ⟨g, 0, none⟩).run Try.prog z.w = .ok (edV ⟨xb, xf, xt, xn⟩) z.w := fun z => (CL.out z.w z.h).2.2.2
          have u5 : ∀ z : BelowBy W4, (loadK 47 ⟨b1, o1 + k * 4, none⟩).run Try.prog z.w = .ok (edV p) z.w := fun z => loadK_ed fun j hj => (z.h.cell (Nat.lt_of_lt_of_le hbb (Nat.le_trans hB HB2.out.size))).trans (hc2 j hj)
          have BT1 := Lib.hid (fun z : BelowBy W4 => calls_belowBy z ((T1.out z.w).mono fun _ _ h => ⟨h.1, by rw [h.2]; exact Below.refl _ _⟩))
          have BT2 := Lib.hid (fun z : BelowBy W4 => calls_belowBy z ((T2.out z.w).mono fun _ _ h => ⟨h.1, by rw [h.2]; exact Below.refl _ _⟩))
          have h1i : (0 : Int) < (i : Int) := by omega
          have hlt1 : (k : Int) < (n : Int) := by omega
          have h1j : (1 : Int) ≤ (i : Int) := by omega
          have h2i : (i : Int) - 1 < (n : Int) := by omega
          have h3i : (0 : Int) ≤ (i : Int) - 1 := by omega
          have h4i : ((i : Int) - 1).toNat = k := by omega
          have hw : IntKind.i64.wrap ((i : Int) - 1) = (i : Int) - 1 := IntWalk.i64_in _ ⟨by omega, by omega⟩
          have hew : edWrong l i = !edLt p ⟨xb, xf, xt, xn⟩ := by
            subst hk
            exact edWrong_lt HX.out hp HFB.out
          have hcb := fun z : BelowBy W4 => calls_belowBy z (rDeBefore p ⟨xb, xf, xt, xn⟩ z.w)
          obtain ⟨ct, hct⟩ : ∃ ct, edLt p ⟨xb, xf, xt, xn⟩ = ct := ⟨_, rfl⟩
          simp only [hct] at hcb
          rw [hct] at hew
          have HEW := Lib.hid hew
          have BC := Lib.hid hcb
          have HK := Lib.hid hk
          clear hew hk hp hc2 hct hcb
          cases ct with
          | false =>
            have hr2 : r = 2 := by
              rw [← HR.out, if_pos (edWrong_at (i := i) (by rw [HEW.out]; rfl) (by rw [HN.out]; exact hlt))]
            subst hr2
            refine wp_region_quiet_below (by kernel_rfl) (by kernel_rfl) ?_
            repeat (first
              | go_big_quiet_step ((first
                  | (go_at_call_of 47 (Value.string xf); with_reducible exact BT1.out _)
                  | (go_at_call_of 47 (Value.string xt); with_reducible exact BT2.out _)
                  | (go_at_call 48; with_reducible exact BC.out _)))
              | quiet_step ((first
                  | (go_at_call_of 47 (Value.string xf); with_reducible exact BT1.out _)
                  | (go_at_call_of 47 (Value.string xt); with_reducible exact BT2.out _)
                  | (go_at_call 48; with_reducible exact BC.out _))))
            refine wpQuiet_nil ?_
            rintro _ ⟨pq, rfl⟩
            go_wp2_with fail
            go_ret
            exact ⟨rfl, HB2.out.trans (pq.h.mono HB2.out.size)⟩
          | true =>
            refine wp_region_quiet_below (by kernel_rfl) (by kernel_rfl) ?_
            repeat (first
              | go_big_quiet_step ((first
                  | (go_at_call_of 47 (Value.string xf); with_reducible exact BT1.out _)
                  | (go_at_call_of 47 (Value.string xt); with_reducible exact BT2.out _)
                  | (go_at_call 48; with_reducible exact BC.out _)))
              | quiet_step ((first
                  | (go_at_call_of 47 (Value.string xf); with_reducible exact BT1.out _)
                  | (go_at_call_of 47 (Value.string xt); with_reducible exact BT2.out _)
                  | (go_at_call 48; with_reducible exact BC.out _))))
            refine wpQuiet_nil ?_
            rintro _ ⟨pq, rfl⟩
            go_wp2_with fail
            exact ⟨⟨i + 1, by omega, by go_num, Lib.hid (by rw [edWrongTo_succ, HG.out, HEW.out]; rfl), Lib.hid (HB2.out.trans (pq.h.mono HB2.out.size))⟩, by simp only [intOf]; omega⟩
    · have hlt' : decide ((i : Int) < (n : Int)) = false := by simp; omega
      obtain rfl : i = n := by omega
      have hr0 : r = 0 := by rw [← HR.out, HN.out, if_neg (by rw [HG.out]; simp)]
      subst hr0
      go_wp2_with fail
      go_ret
      exact ⟨rfl, HB.out⟩
end Go.Proofs.Ythaiplhjekkooaa

/- The document's Merge and Between of layer 24. -/
namespace Go.Proofs.Ythaiplhjekkooaa
open Go.RowKit
theorem loadEd_shutX (a : Addr) : loadVar 47 a = loadK 47 a := rfl
attribute [local go_sem ↓] loadEd_shutX

theorem addAll_app : ∀ (xs ys out : List Ed), addAll (xs ++ ys) out = (addAll xs out).bind (addAll ys)
  | [], ys, out => rfl
  | x :: xs, ys, out => by
    rw [List.cons_append, addAll, addAll]
    split
    · exact addAll_app xs ys _
    · rfl
theorem addAll_snoc {xs : List Ed} {x : Ed} {o : List Ed} (h : addAll xs [] = some o) : addAll (xs ++ [x]) [] = if (addE x o).2 = true then some (addE x o).1 else none := by
  rw [addAll_app, h]
  rfl
theorem addAll_fall {xs : List Ed} {x : Ed} {o : List Ed} {i : Nat} (h : addAll (xs.take i) [] = some o) (hx : xs[i]? = some x) (hf : (addE x o).2 = false) : addOut xs = ([], 3) := by
  have h1 : addAll xs [] = none := by
    rw [← List.take_append_drop (i + 1) xs, addAll_app, take_snoc hx, addAll_snoc h, hf]
    rfl
  rw [addOut, h1]
theorem addAll_fewX {xs o : List Ed} (h : addAll xs [] = some o) : EdFew o := by
  have hs := addAll_same (xs := xs) Same.nil (fun e he => by cases he)
  rw [h] at hs
  exact hs.2
set_option maxRecDepth 100000 in
set_option maxHeartbeats 8000000 in
theorem rDeMerge {A1 A2 : Option Addr} {n1 c1 n2 c2 B : Nat} (l1 l2 : List Ed) (w : World) (h1 : RbD w B A1 l1) (h2 : RbD w B A2 l2) (hn1 : l1.length = n1) (hn2 : l2.length = n2) (hB : B ≤ w.heap.size) (hs1 : n1 ≤ 10000) (hs2 : n2 ≤ 10000) (ho1 : ∀ e ∈ l1, e.n < 18446744073709551616) (ho2 : ∀ e ∈ l2, e.n < 18446744073709551616) :
    Calls Try.prog 27 #[.slice A1 n1 c1, .slice A2 n2 c2] w (EdsPost w (mergeOut l1 l2)) := by
  obtain ⟨r, hr⟩ : ∃ r, mergeOut l1 l2 = r := ⟨_, rfl⟩
  rw [hr]
  have cc1 := rDeCheck (c := c1) l1 w h1 hn1 hB (by omega)
  by_cases hk1 : edChk l1 = 0
  · rw [hk1] at cc1
    go_enter Try.func27, Try.ntmps27
    go_wp2_with fail
    refine cc1.mono ?_
    rintro en w1 ⟨rfl, hb1⟩
    have cc2 := rDeCheck (c := c2) l2 w1 (Rd.below h2 (hb1.mono hB)) hn2 (Nat.le_trans hB hb1.size) (by omega)
    by_cases hk2 : edChk l2 = 0
    · rw [hk2] at cc2
      go_wp2_with fail
      refine cc2.mono ?_
      rintro en w2 ⟨rfl, hb2⟩
      have hb02 := hb1.trans (hb2.mono hb1.size)
      have HRO := Lib.hid (show addOut (l1 ++ l2) = r by rw [← hr, mergeOut_ok hk1 hk2])
      have r1 := Rd.below h1 (hb02.mono hB)
      have r2 := Rd.below h2 (hb02.mono hB)
      have hbs := hb02.size
      have HB02 := Lib.hid hb02
      have HO1 := Lib.hid ho1
      have HO2 := Lib.hid ho2
      have hB2 := Nat.le_trans hB hbs
      have HN1 := Lib.hid hn1
      have HN2 := Lib.hid hn2
      clear cc1 cc2 hb1 hb2 hb02 hr ho1 ho2 hn1 hn2 h1 h2 hB hbs hk1 hk2
      go_wp2_with (at_builtin; go_loud (refine wpList_appD _ rfl (.tmp 20) (.tmp 21) rfl w2.heap.size _ 0 [] rfl (World.ownsRow_lit w2 #[] 0 (Nat.le_refl _) (by simp [maxLen]) rfl) _ _ n1 _ l1 rfl HN1.out (Rd.alloc r1 hB2 _) (by omega) (by simp) ?_))
      intro A3 c3 w3 hap3 _
      have hap3' := hap3.fresh1
      have hb3 := hap3'.below0
      go_wp2_with (at_builtin; go_loud (refine wpList_appD _ rfl (.tmp 22) (.tmp 23) rfl w2.heap.size _ _ _ rfl hap3'.own _ _ n2 _ l2 rfl HN2.out (Rd.below r2 (hb3.mono hB2)) (by omega) hb3.size ?_))
      intro A4 c4 w4 hap4 _
      have hb4 := hap4.below hb3.size (fun k hk => (own_ltD hap3'.own k hk).2)
      have hb24 := hb3.trans hb4
      have own4 : w4.ownsRow w2.heap.size 47 4 (.slice A4 (n1 + n2) c4) (n1 + n2) (eds (l1 ++ l2)) := hap4.own
      have HR4 := Lib.hid (show RbD w4 w4.heap.size A4 (l1 ++ l2) from Rd.of_own own4)
      have HB04 := Lib.hid (HB02.out.trans (hb24.mono HB02.out.size))
      have HNX := Lib.hid (show (l1 ++ l2).length = n1 + n2 by rw [List.length_append, HN1.out, HN2.out])
      have HOX := Lib.hid (show ∀ e ∈ l1 ++ l2, e.n < 18446744073709551616 from fun e he => (List.mem_append.1 he).elim (HO1.out e) (HO2.out e))
      obtain ⟨xs, hxs⟩ : ∃ xs, l1 ++ l2 = xs := ⟨_, rfl⟩
      rw [hxs] at HR4 HNX HOX HRO
      obtain ⟨n, hn⟩ : ∃ n, n1 + n2 = n := ⟨_, rfl⟩
      rw [hn] at HNX
      have hnl : n ≤ 20000 := by omega
      have HNN := Lib.hid hn
      clear hap3 hap3' hap4 hb3 hb4 hb24 own4 hxs hn HN1 HN2 HO1 HO2 HB02 r1 r2 hB2 hs1 hs2
      go_wp2_with fail
      rw [HNN.out]
      go_loopw [7, 9] (fun out_ i_ wr => ∃ (i m c' : Nat) (A' : Option Addr) (out : List Ed), i ≤ n ∧ out_ = .slice A' m c' ∧ i_ = .int .i64 i ∧ m ≤ i ∧ Hid (addAll (xs.take i) [] = some out ∧ out.length = m) ∧ wr.ownsRow w4.heap.size 47 4 (.slice A' m c') m (eds out) ∧ Hid (Below w4.heap.size w4 wr)) (fun _ i_ _ => n - (intOf i_).toNat)
      case atStart => exact ⟨0, 0, 0, none, [], by omega, rfl, rfl, by omega, Lib.hid ⟨rfl, rfl⟩, World.ownsRow_nil _ _ _ _, Lib.hid (Below.refl _ _)⟩
      case round =>
        obtain ⟨i, m, c', A', out, hi, rfl, rfl, hm, HO, hown, HB⟩ := hrel
        by_cases hij : i < n
        · have hij' : (i : Int) < (n : Int) := by omega
          obtain ⟨x, hx⟩ : ∃ x, xs[i]? = some x := ⟨_, List.getElem?_eq_getElem (by rw [HNX.out]; exact hij)⟩
          obtain ⟨ob, oo, eA, hbb, hcl⟩ := RbD.at (Rd.below HR4.out HB.out) hx
          subst eA
          have hld := loadK_ed hcl
          have hfew := addAll_fewX HO.out.1
          have cadd := rDeAdd (base := w4.heap.size) out x wr hown HO.out.2 (by omega) HB.out.size (HOX.out x (List.mem_of_getElem? hx)) (fun z hz => by have := hfew z hz; omega)
          have hsn : (addE x out).2 = true → addAll (xs.take (i + 1)) [] = some (addE x out).1 := fun hf => by
            rw [take_snoc hx, addAll_snoc HO.out.1, if_pos hf]
          have hfl := addAll_fall HO.out.1 hx
          have hle := addE_lenU x out
          rw [HO.out.2] at hle
          obtain ⟨R2, hR2⟩ : ∃ R2, addE x out = R2 := ⟨_, rfl⟩
          rw [hR2] at cadd hsn hfl hle
          obtain ⟨o2, f2⟩ := R2
          have HSN := Lib.hid hsn
          have HFL := Lib.hid hfl
          have HLE := Lib.hid hle
          have CA := Lib.hid cadd
          clear hsn hfl hle cadd hR2 hfew hx hcl hown
          go_wp2_with fail
          refine CA.out.mono ?_
          rintro en w6 ⟨A6, c6, n6, rfl, hn6, own6, hb6⟩
          have HB6 := Lib.hid (HB.out.trans hb6)
          cases f2 with
          | true =>
            go_wp2_with fail
            exact ⟨⟨i + 1, n6, c6, A6, o2, by omega, rfl, by go_num, by have h1 : o2.length ≤ m + 1 := HLE.out; have h2 : o2.length = n6 := hn6; omega, Lib.hid ⟨by first | exact HSN.out rfl | exact HSN.out trivial, hn6⟩, own6, HB6⟩, by simp only [intOf]; omega⟩
          | false =>
            have hre : r = ([], 3) := by rw [← HRO.out]; exact HFL.out rfl
            subst hre
            go_wp2_with fail
            go_ret2
            exact EdsPost.no (HB04.out.trans (HB6.out.mono HB04.out.size))
        · have hij' : decide ((i : Int) < (n : Int)) = false := by simp; omega
          obtain rfl : i = n := by omega
          have hre : r = (out, 0) := by
            have h1 := HO.out.1
            rw [List.take_of_length_le (by rw [HNX.out]; exact Nat.le_refl _)] at h1
            rw [← HRO.out, addOut, h1]
          subst hre
          go_wp2_with fail
          go_ret2
          obtain ⟨-, rfl⟩ := HO.out
          exact ⟨A', c', rfl, own_baseJ hown HB04.out.size, HB04.out.trans (HB.out.mono HB04.out.size)⟩
    · have hre : r = ([], 2) := by rw [← hr]; exact mergeOut_r hk2
      rw [(edChk_two l2).resolve_left hk2] at cc2
      subst hre
      go_wp2_with fail
      refine cc2.mono ?_
      rintro en w2 ⟨rfl, hb2⟩
      go_wp2_with fail
      go_ret2
      exact EdsPost.no (hb1.trans (hb2.mono hb1.size))
  · have hre : r = ([], 2) := by rw [← hr]; exact mergeOut_l hk1
    rw [(edChk_two l1).resolve_left hk1] at cc1
    subst hre
    go_enter Try.func27, Try.ntmps27
    go_wp2_with fail
    refine cc1.mono ?_
    rintro en w1 ⟨rfl, hb1⟩
    go_wp2_with fail
    go_ret2
    exact EdsPost.no hb1
set_option maxRecDepth 100000 in
set_option maxHeartbeats 8000000 in
theorem rDeBetween {A : Option Addr} {n c B : Nat} (l : List Ed) (p q : Nat) (w : World) (h : RbD w B A l) (hn : l.length = n) (hB : B ≤ w.heap.size) (hs : n ≤ 10000) (ho : ∀ e ∈ l, e.n < 18446744073709551616) :
    Calls Try.prog 28 #[.slice A n c, .int .u64 p, .int .u64 q] w (EdsPost w (betOut l p q)) := by
  have cc := rDeCheck (c := c) l w h hn hB (by omega)
  obtain ⟨r, hr⟩ : ∃ r, betOut l p q = r := ⟨_, rfl⟩
  rw [hr]
  rw [betOut] at hr
  have h2 := edChk_two l
  obtain ⟨ck, hck⟩ : ∃ ck, edChk l = ck := ⟨_, rfl⟩
  rw [hck] at cc hr h2
  have HR := Lib.hid hr
  have HN := Lib.hid hn
  have HH := Lib.hid h
  have HO0 := Lib.hid ho
  clear hr hn h hck ho
  go_enter Try.func28, Try.ntmps28
  go_wp2_with fail
  refine cc.mono ?_
  rintro en w5 ⟨rfl, hb5⟩
  by_cases h0 : ck = 0
  · subst h0
    have HRO := Lib.hid (show addOut (l.filterMap (betE p q)) = r by rw [← HR.out, if_neg (by simp)])
    clear HR h2 cc
    go_wp2_with fail
    go_loopw [9, 10] (fun out_ i_ wr => ∃ (i m c' : Nat) (A' : Option Addr) (out : List Ed), i ≤ n ∧ out_ = .slice A' m c' ∧ i_ = .int .i64 i ∧ m ≤ i ∧ Hid (addAll ((l.take i).filterMap (betE p q)) [] = some out ∧ out.length = m) ∧ wr.ownsRow w.heap.size 47 4 (.slice A' m c') m (eds out) ∧ Hid (Below w.heap.size w wr)) (fun _ i_ _ => n - (intOf i_).toNat)
    case atStart => exact ⟨0, 0, 0, none, [], by omega, rfl, rfl, by omega, Lib.hid ⟨rfl, rfl⟩, World.ownsRow_nil _ _ _ _, Lib.hid hb5⟩
    case round =>
      obtain ⟨i, m, c', A', out, hi, rfl, rfl, hm, HO, hown, HB⟩ := hrel
      by_cases hij : i < n
      · have hij' : (i : Int) < (n : Int) := by omega
        obtain ⟨x, hx⟩ : ∃ x, l[i]? = some x := ⟨_, List.getElem?_eq_getElem (by rw [HN.out]; exact hij)⟩
        obtain ⟨ob, oo, eA, k0, k1, k2, k3⟩ := RbD.cells (Rd.below HH.out (HB.out.mono hB)) hx
        subst eA
        have HX := Lib.hid hx
        have HOWN := Lib.hid hown
        have hnone : betE p q x = none → addAll ((l.take (i + 1)).filterMap (betE p q)) [] = some out := fun hz => by
          rw [take_snoc hx, List.filterMap_append, show [x].filterMap (betE p q) = [] by simp [hz], List.append_nil]
          exact HO.out.1
        have HNO := Lib.hid hnone
        clear hx hnone hown
        by_cases h1 : (x.b : Int) < (p : Int)
        · go_wp2_with fail
          exact ⟨⟨i + 1, m, c', A', out, by omega, rfl, by go_num, by omega, Lib.hid ⟨HNO.out (by rw [betE, if_neg (by omega)]), HO.out.2⟩, HOWN.out, HB⟩, by simp only [intOf]; omega⟩
        · have h1' : decide ((x.b : Int) < (p : Int)) = false := by simp; omega
          by_cases h2 : (q : Int) < (x.b : Int)
          · go_wp2_with fail
            exact ⟨⟨i + 1, m, c', A', out, by omega, rfl, by go_num, by omega, Lib.hid ⟨HNO.out (by rw [betE, if_neg (by omega)]), HO.out.2⟩, HOWN.out, HB⟩, by simp only [intOf]; omega⟩
          · have h2' : decide ((q : Int) < (x.b : Int)) = false := by simp; omega
            have hbe : betE p q x = some ⟨0, x.f, x.t, x.n⟩ := by rw [betE, if_pos (by omega)]
            have hbd := below_drewN (Below.refl wr.heap.size wr) 1
            have own1 := ((App.refl HOWN.out).later hbd).own
            have hfew := addAll_fewX HO.out.1
            have cadd := rDeAdd (base := w.heap.size) out ⟨0, x.f, x.t, x.n⟩ wr.drew own1 HO.out.2 (by omega) HB.out.size (HO0.out x (List.mem_of_getElem? HX.out)) (fun z hz => by have := hfew z hz; omega)
            have hsn : (addE ⟨0, x.f, x.t, x.n⟩ out).2 = true → addAll ((l.take (i + 1)).filterMap (betE p q)) [] = some (addE ⟨0, x.f, x.t, x.n⟩ out).1 := fun hf => by
              rw [take_snoc HX.out, List.filterMap_append, show [x].filterMap (betE p q) = [⟨0, x.f, x.t, x.n⟩] by simp [hbe], addAll_snoc HO.out.1, if_pos hf]
            have hfl : (addE ⟨0, x.f, x.t, x.n⟩ out).2 = false → addOut (l.filterMap (betE p q)) = ([], 3) := fun hf => by
              have h1 : addAll (l.filterMap (betE p q)) [] = none := by
                rw [← List.take_append_drop (i + 1) l, List.filterMap_append, addAll_app, take_snoc HX.out, List.filterMap_append, show [x].filterMap (betE p q) = [⟨0, x.f, x.t, x.n⟩] by simp [hbe], addAll_snoc HO.out.1, hf]
                rfl
              rw [addOut, h1]
            have hle := addE_lenU ⟨0, x.f, x.t, x.n⟩ out
            rw [HO.out.2] at hle
            obtain ⟨R2, hR2⟩ : ∃ R2, addE ⟨0, x.f, x.t, x.n⟩ out = R2 := ⟨_, rfl⟩
            rw [hR2] at cadd hsn hfl hle
            obtain ⟨o2, f2⟩ := R2
            have HSN := Lib.hid hsn
            have HFL := Lib.hid hfl
            have HLE := Lib.hid hle
            have CA := Lib.hid cadd
            have HBD := Lib.hid hbd
            have HC := Lib.hid (fun W (hW : Below w.heap.size w W) => show W.cell? ⟨ob, oo + i * 4 + 1, none⟩ = some (.string x.f) ∧ W.cell? ⟨ob, oo + i * 4 + 2, none⟩ = some (.string x.t) ∧ W.cell? ⟨ob, oo + i * 4 + 3, none⟩ = some (.int .u64 x.n) by
              obtain ⟨ob', oo', eA', -, q1, q2, q3⟩ := RbD.cells (Rd.below HH.out (hW.mono hB)) HX.out
              cases eA'
              exact ⟨q1, q2, q3⟩)
            obtain ⟨j1, j2, j3⟩ := HC.out wr.drew (HB.out.trans (hbd.mono HB.out.size))
            clear hsn hfl hle cadd hR2 hfew own1 hbd hbe
            go_wp2_with fail
            go_region_held3 (fun w' => w'.cell? ⟨ob, oo + i * 4 + 1, none⟩ = some (.string x.f) ∧ w'.cell? ⟨ob, oo + i * 4 + 2, none⟩ = some (.string x.t) ∧ w'.cell? ⟨ob, oo + i * 4 + 3, none⟩ = some (.int .u64 x.n)) (go_keep)
              (first
                | (go_at_call 38
                   refine CA.out.mono ?_
                   rintro en w6 ⟨A6, c6, n6, rfl, hn6, own6, hb6⟩
                   have HB6 := Lib.hid ((HB.out.trans (HBD.out.mono HB.out.size)).trans hb6)
                   obtain ⟨u1, u2, u3⟩ := HC.out w6 HB6.out)
                | fail)
            cases f2 with
            | true =>
              go_wp2_with fail
              exact ⟨⟨i + 1, n6, c6, A6, o2, by omega, rfl, by go_num, by have h1 : o2.length ≤ m + 1 := HLE.out; have h2 : o2.length = n6 := hn6; omega, Lib.hid ⟨by first | exact HSN.out rfl | exact HSN.out trivial, hn6⟩, own6, HB6⟩, by simp only [intOf]; omega⟩
            | false =>
              have hre : r = ([], 3) := by rw [← HRO.out]; exact HFL.out rfl
              subst hre
              go_wp2_with fail
              go_ret2
              exact EdsPost.no HB6.out
      · have hij' : decide ((i : Int) < (n : Int)) = false := by simp; omega
        obtain rfl : i = n := by omega
        have hre : r = (out, 0) := by
          have h1 := HO.out.1
          rw [List.take_of_length_le (by rw [HN.out]; exact Nat.le_refl _)] at h1
          rw [← HRO.out, addOut, h1]
        subst hre
        go_wp2_with fail
        go_ret2
        obtain ⟨-, rfl⟩ := HO.out
        exact ⟨A', c', rfl, hown, HB.out⟩
  · have h0' : ((ck : Int) != 0) = true := by simp; omega
    have hre : r = ([], ck) := by
      rcases h2 with h | h
      · exact absurd h h0
      · rw [← HR.out, if_pos h0, h]
    subst hre
    go_wp2_with fail
    go_ret2
    exact EdsPost.no hb5
end Go.Proofs.Ythaiplhjekkooaa

/- deps: Edges. -/
namespace Go.Proofs.Ythaiplhjekkooaa
open Go.RowKit Go.MapKept
theorem loadSp_shutO (a : Addr) : loadVar 43 a = loadK 43 a := rfl
theorem loadAd_shutO (a : Addr) : loadVar 45 a = loadK 45 a := rfl
attribute [local go_sem ↓] loadSp_shutO loadAd_shutO
set_option maxRecDepth 100000 in
theorem loadK_adSpB {w : World} {g : Nat} {e : AE} (h : Bk w g 45 (adC e.a e.A e.n e.c)) : (loadK 43 ⟨g, 0, none⟩).run Try.prog w = .ok (spvE e) w :=
  run_loadVar_cells w _ _ ⟨g, 0, none⟩ (spC e.a.s e.A e.n e.c).toList Try.underlying43 rfl (by rfl) (fun j v hv => by
    have hj : j < 11 := (List.getElem?_eq_some_iff.1 hv).1
    rw [Addr.add_lit, Nat.zero_add, h.cell j, ← hv]
    have : j = 0 ∨ j = 1 ∨ j = 2 ∨ j = 3 ∨ j = 4 ∨ j = 5 ∨ j = 6 ∨ j = 7 ∨ j = 8 ∨ j = 9 ∨ j = 10 := by omega
    rcases this with rfl | rfl | rfl | rfl | rfl | rfl | rfl | rfl | rfl | rfl | rfl <;> rfl)
theorem idRun : KeyRun Try.prog 29 idV := intRun Try.underlying29
set_option maxRecDepth 100000 in
set_option maxHeartbeats 8000000 in
theorem deEdges {A : Option Addr} {n c B : Nat} (l : List AE) (size : Int) (w : World) (h : RbA w B A l) (hn : l.length = n) (hB : B ≤ w.heap.size) (hnl : n ≤ 200) (hs0 : -9223372036854775808 ≤ size) (hs1 : size ≤ 9223372036854775807)
    (hst : ∀ e ∈ l, e.a.s.start ≤ 9223372036854775807 ∧ -9223372036854775808 ≤ e.a.s.start) :
    Calls Try.prog 10 #[.slice A n c, .int .i64 size] w (EdgC l size w) := by
  have hb0 : Below w.heap.size w (w.alloc (.map #[] 0)) := (Below.refl _ w).alloc (Nat.le_refl _) _
  have m0 := Mg.new (kv := idV) (vv := spvE) w
  obtain ⟨w1, hw1⟩ : ∃ w1, w.alloc (.map #[] 0) = w1 := ⟨_, rfl⟩
  obtain ⟨b, hb⟩ : ∃ b, w.heap.size = b := ⟨_, rfl⟩
  rw [hw1] at hb0 m0
  rw [hb] at m0
  have HP := Lib.hid (show EdgC l size w = EdgC l size w from rfl)
  have HW := Lib.hid hw1
  have HG := Lib.hid hb
  have HN := Lib.hid hn
  have HST := Lib.hid hst
  have HH := Lib.hid h
  have HM0 := Lib.hid m0
  have HB0 := Lib.hid hb0
  clear hw1 hb hn hst h m0 hb0
  have hmm := @run_makeMap Try.prog
  go_enter Try.func10, Try.ntmps10
  go_wp2_with fail
  rw [HW.out, HG.out]
  go_loopw [24] (fun i_ wr => ∃ i : Nat, i ≤ n ∧ i_ = .int .i64 i ∧ Hid (Mg idV spvE wr b (atTo (l.take i))) ∧ Hid (Below w.heap.size w wr)) (fun i_ _ => n - (intOf i_).toNat)
  case atStart => exact ⟨0, by omega, rfl, HM0, HB0⟩
  case round =>
    obtain ⟨i, hi, rfl, HM, HB⟩ := hrel
    by_cases hlt : i < n
    · have hlt' : (i : Int) < (n : Int) := by omega
      obtain ⟨x, hx⟩ : ∃ x, l[i]? = some x := ⟨_, List.getElem?_eq_getElem (by rw [HN.out]; exact hlt)⟩
      obtain ⟨ob, oo, eA, hbb, hc, hok⟩ := (HH.out.below (HB.out.mono hB)).get hx
      subst eA
      have hld := loadK_ae hc
      have HX := Lib.hid hx
      have bk := Bk.new wr 45 (adC x.a x.A x.n x.c)
      have hsp := loadK_adSpB bk
      have HM2 := Lib.hid (HM.out.alloc (.cells (adC x.a x.A x.n x.c) 45))
      have HB2 := Lib.hid (HB.out.alloc HB.out.size (.cells (adC x.a x.A x.n x.c) 45))
      clear hx hc hok bk
      go_wp2_with (first
        | (refine wpList_mgPut _ rfl (.tmp 28) (.tmp 31) (.tmp 33) 63 rfl idRun Try.underlying63 b _ rfl HM2.out x.a.s.id x rfl rfl ?_
           rintro w3 hm3 hg3 hs3)
        | fail)
      exact ⟨⟨i + 1, by omega, by go_num, Lib.hid (by rw [take_snoc HX.out, atTo_snoc]; exact hm3), Lib.hid (HB2.out.trans (below_grownJ hg3 HB2.out.size (fun j hj => by have h1 := Option.some.inj hj; have h2 := HG.out; omega)))⟩, by simp only [intOf]; omega⟩
    · have hlt' : decide ((i : Int) < (n : Int)) = false := by simp; omega
      obtain rfl : i = n := by omega
      have hm := HM.out
      rw [List.take_of_length_le (by rw [HN.out]; omega)] at hm
      obtain ⟨M, hMM⟩ : ∃ M, atTo l = M := ⟨_, rfl⟩
      rw [hMM] at hm
      have HMM := Lib.hid hMM
      have hlen := run_mgLen (P := Try.prog) Try.underlying63 hm
      obtain ⟨q, hq⟩ : ∃ q, M.length = q := ⟨_, rfl⟩
      rw [hq] at hlen
      have HQ := Lib.hid hq
      have hlenF : Hid (∀ W, Mg idV spvE W b M → ∀ ty, (Builtin.len_ #[63] ty #[.map (some b)]).run Try.prog W = .ok (.int .i64 q) W) := Lib.hid fun W hW ty => by rw [← HQ.out]; exact run_mgLen Try.underlying63 hW ty
      have HMg := Lib.hid hm
      clear hMM hq HM hm hlt'
      by_cases hz : size < 1
      · have hz' : decide (size < 1) = true := by simp [hz]
        go_wp2_with fail
        go_ret2
        exact ⟨HB.out, .inl ⟨.inl hz, rfl⟩⟩
      have hz' : decide (size < 1) = false := by simp; omega
      by_cases hqn : q = i
      · have hqn' : ((q : Int) != (i : Int)) = false := by simp; omega
        have hneg := deHasNeg (c := c) wr (HH.out.below (HB.out.mono hB)) HN.out (Nat.le_trans hB HB.out.size) (by omega)
        obtain ⟨ng, hng⟩ : ∃ ng, l.any negA = ng := ⟨_, rfl⟩
        rw [hng] at hneg
        have HNG := Lib.hid hng
        clear hng
        cases ng with
        | true =>
          go_wp2_with (go_at_call 32; refine hneg.mono ?_; rintro en w4 ⟨rfl, hb4⟩)
          go_ret2
          exact ⟨HB.out.trans (hb4.mono HB.out.size), .inl ⟨.inr (.inr HNG.out), rfl⟩⟩
        | false =>
          have HNB := Lib.hid (show ¬ (size < 1 ∨ (atTo l).length ≠ l.length ∨ l.any negA = true) by
            rw [HMM.out, HQ.out, HN.out, HNG.out]
            rintro (h1 | h1 | h1)
            · exact hz h1
            · exact h1 hqn
            · cases h1)
          go_wp2_with (go_at_call 32; refine hneg.mono ?_; rintro en w4 ⟨rfl, hb4⟩)
          have HB4 := Lib.hid (HB.out.trans (hb4.mono HB.out.size))
          have HM4 := Lib.hid (HMg.out.bS hb4)
          clear hlen hneg hb4 HMg HB hqn' hqn hlenF
          go_loopw [50] (fun i_ wr2 => ∃ j : Nat, j ≤ i ∧ i_ = .int .i64 j ∧ Hid (spErr (l.map (·.a.s)) = spErr ((l.map (·.a.s)).drop j)) ∧ Hid (Mg idV spvE wr2 b M) ∧ Hid (Below w.heap.size w wr2)) (fun i_ _ => i - (intOf i_).toNat)
          case atStart => exact ⟨0, by omega, rfl, Lib.hid rfl, HM4, HB4⟩
          case round =>
            obtain ⟨j, hj, rfl, HS, HM, HB⟩ := hrel
            by_cases hlt : j < i
            · have hlt' : (j : Int) < (i : Int) := by omega
              obtain ⟨x, hx⟩ : ∃ x, l[j]? = some x := ⟨_, List.getElem?_eq_getElem (by rw [HN.out]; exact hlt)⟩
              obtain ⟨ob, oo, eA, hbb, hc, hok⟩ := (HH.out.below (HB.out.mono hB)).get hx
              subst eA
              have hld := loadK_ae hc
              have hgx : (l.map (·.a.s))[j]? = some x.a.s := by simp [hx]
              have hds := spErr_dropD hgx
              rw [← HS.out] at hds
              have bk := Bk.new wr 45 (adC x.a x.A x.n x.c)
              have hsp := loadK_adSpB bk
              have hbA := (Below.refl wr.heap.size wr).alloc (Nat.le_refl _) (.cells (adC x.a x.A x.n x.c) 45)
              have HM2 := Lib.hid (HM.out.alloc (.cells (adC x.a x.A x.n x.c) 45))
              have HB2 := Lib.hid (HB.out.alloc HB.out.size (.cells (adC x.a x.A x.n x.c) 45))
              have cc := spCheck (c := x.c) x.a.s (wr.alloc (.cells (adC x.a x.A x.n x.c) 45)) (hok.below (hbA.mono (Nat.le_trans hB HB.out.size))).rd hok.len (Nat.le_trans hB HB2.out.size) hok.max
              obtain ⟨ck, hck⟩ : ∃ ck, spChk x.a.s = ck := ⟨_, rfl⟩
              rw [hck] at cc hds
              have HDS := Lib.hid hds
              clear hds hck hx hgx hok hc HS bk hbA HM HB
              go_wp2_with fail
              refine cc.mono ?_
              rintro en w5 ⟨rfl, hb5⟩
              have HB5 := Lib.hid (HB2.out.trans (hb5.mono HB2.out.size))
              have HM5 := Lib.hid (HM2.out.bS hb5)
              clear hb5
              by_cases h0 : ck = 0
              · subst h0
                go_wp2_with fail
                exact ⟨⟨j + 1, by omega, by go_num, Lib.hid (by rw [HDS.out]; simp), HM5, HB5⟩, by simp only [intOf]; omega⟩
              · have h0' : ((ck : Int) != 0) = true := by simp; omega
                have hse : spErr (l.map (·.a.s)) = ck := by rw [HDS.out, if_pos h0]
                go_wp2_with fail
                go_ret2
                exact ⟨HB5.out, .inr ⟨HNB.out, .inl ⟨by rw [hse]; exact h0, by rw [hse]; rfl⟩⟩⟩
            · have hlt' : decide ((j : Int) < (i : Int)) = false := by simp; omega
              have HZ0 := Lib.hid (show spErr (l.map (·.a.s)) = 0 by rw [HS.out, List.drop_eq_nil_of_le (by rw [List.length_map, HN.out]; omega)]; rfl)
              have m2 := Mg.new (kv := ekV) (vv := uvV) wr
              have mA := HM.out.alloc (.map #[] 0)
              have hb6 := HB.out.alloc HB.out.size (.map #[] 0)
              obtain ⟨b2, hb2⟩ : ∃ b2, wr.heap.size = b2 := ⟨_, rfl⟩
              obtain ⟨w6, hw6⟩ : ∃ w6, wr.alloc (.map #[] 0) = w6 := ⟨_, rfl⟩
              have hlb : b < b2 := by rw [← hb2]; exact HM.out.lt
              have hlw : w.heap.size ≤ b2 := by rw [← hb2]; exact HB.out.size
              rw [hb2, hw6] at m2
              rw [hw6] at mA hb6
              have HMA := Lib.hid mA
              have HM2 := Lib.hid m2
              have HB6 := Lib.hid hb6
              have HW6 := Lib.hid hw6
              have HB2 := Lib.hid hb2
              clear HS m2 mA hb6 hw6 hb2 HM HB HM4 HB4
              go_wp2_with fail
              rw [HW6.out, HB2.out]
              clear hlt hlt' hj
              go_loopw [64] (fun i_ wr3 => ∃ k : Nat, k ≤ i ∧ i_ = .int .i64 k ∧ Hid (Mg idV spvE wr3 b M) ∧ Hid (Mg ekV uvV wr3 b2 (mgAll ((l.take k).filterMap (callC size M)) [])) ∧ Hid (Below w.heap.size w wr3)) (fun i_ _ => i - (intOf i_).toNat)
              case atStart => exact ⟨0, by omega, rfl, HMA, HM2, HB6⟩
              case round =>
                obtain ⟨k, hk, rfl, HM, HE, HB⟩ := hrel
                by_cases hki : k < i
                · have hki' : (k : Int) < (i : Int) := by omega
                  obtain ⟨x, hx⟩ : ∃ x, l[k]? = some x := ⟨_, List.getElem?_eq_getElem (by rw [HN.out]; exact hki)⟩
                  obtain ⟨ob, oo, eA, hbb, hc, hok⟩ := (HH.out.below (HB.out.mono hB)).get hx
                  subst eA
                  have hld := loadK_ae hc
                  have HX := Lib.hid hx
                  have hA2 := HM.out.alloc (.cells (adC x.a x.A x.n x.c) 45)
                  have hlk := run_mgLook (z := .agg zspC) (e := 43) idRun Try.underlying63 (by simp [Try.zeroValue43]) hA2 x.a.up true
                  have HB7 := Lib.hid (HB.out.alloc HB.out.size (.cells (adC x.a x.A x.n x.c) 45))
                  have HM7 := Lib.hid hA2
                  have HE7 := Lib.hid (HE.out.alloc (.cells (adC x.a x.A x.n x.c) 45))
                  have hstep : ∀ r, r = callC size M x → mgAll ((l.take (k + 1)).filterMap (callC size M)) [] = match r with | some e => addK (edK e) e.n (mgAll ((l.take k).filterMap (callC size M)) []) | none => mgAll ((l.take k).filterMap (callC size M)) [] := fun r hr => by
                    rw [take_snoc HX.out, List.filterMap_append]
                    cases r with
                    | none =>
                      rw [show [x].filterMap (callC size M) = [] by simp [← hr], List.append_nil]
                    | some e =>
                      rw [show [x].filterMap (callC size M) = [e] by simp [← hr], mgAll_snoc]
                  have HSTEP := Lib.hid hstep
                  have hxs := HST.out x (List.mem_of_getElem? hx)
                  clear hx hc hok hA2 hstep HM HE HB
                  cases hup : mgGet x.a.up M with
                  | none =>
                    rw [hup] at hlk
                    simp only [if_true, Option.map_none, Option.getD_none, Option.isSome_none] at hlk
                    have hcn : callC size M x = none := by rw [callC, hup]
                    have hst2 := HSTEP.out none hcn.symm
                    have HST2 := Lib.hid hst2
                    clear hst2 HSTEP hcn hup
                    go_wp2_with fail
                    exact ⟨⟨k + 1, by omega, by go_num, Lib.hid (HM7.out.alloc _), Lib.hid (by rw [HST2.out]; exact HE7.out.alloc _), Lib.hid (HB7.out.alloc HB7.out.size _)⟩, by simp only [intOf]; omega⟩
                  | some y =>
                    rw [hup] at hlk
                    simp only [if_true, Option.map_some, Option.getD_some, Option.isSome_some] at hlk
                    by_cases hsv : y.a.s.service = x.a.s.service
                    · have hcn : callC size M x = none := by rw [callC, hup]; simp [hsv]
                      have hst2 := HSTEP.out none hcn.symm
                      have HST2 := Lib.hid hst2
                      have hsv' : (y.a.s.service.toList == x.a.s.service.toList) = true := by rw [strEq_of', decide_eq_true hsv]
                      have hsv'' : (y.a.s.service.toList != x.a.s.service.toList) = false := by rw [bne, hsv']; rfl
                      clear hst2 HSTEP hcn hup
                      go_wp2_with fail
                      exact ⟨⟨k + 1, by omega, by go_num, Lib.hid (HM7.out.alloc _), Lib.hid (by rw [HST2.out]; exact HE7.out.alloc _), Lib.hid (HB7.out.alloc HB7.out.size _)⟩, by simp only [intOf]; omega⟩
                    · have hcn : callC size M x = some ⟨(bktOf x.a.s.start size).1, y.a.s.service, x.a.s.service, 1⟩ := by rw [callC, hup]; simp [hsv]
                      have hst2 := HSTEP.out _ hcn.symm
                      have HST2 := Lib.hid hst2
                      have hsv' : (y.a.s.service.toList == x.a.s.service.toList) = false := by rw [strEq_of', decide_eq_false hsv]
                      have hsv'' : (y.a.s.service.toList != x.a.s.service.toList) = true := by rw [bne, hsv']; rfl
                      clear hst2 HSTEP hcn hup
                      go_wp2_with fail
                      refine (deBucket x.a.s.start size _ hxs.2 hxs.1 hs0 hs1).mono ?_
                      rintro en w8 ⟨rfl, hw8⟩
                      rw [hw8]
                      clear hw8
                      go_wp2_with fail
                      refine (deAdd ⟨(bktOf x.a.s.start size).1, y.a.s.service, x.a.s.service⟩ 1 _ (HE7.out.alloc _)).mono ?_
                      rintro en w9 ⟨rfl, hE9, hg9, hs9⟩
                      go_wp2_with fail
                      exact ⟨⟨k + 1, by omega, by go_num, Lib.hid ((HM7.out.alloc _).grown hg9 (fun e => by have := Option.some.inj e; omega)), Lib.hid (by rw [HST2.out]; exact hE9), Lib.hid ((HB7.out.alloc HB7.out.size _).trans (below_grownJ hg9 (by have := HB7.out.size; simp at this ⊢; omega) (fun j hj => by have := Option.some.inj hj; omega)))⟩, by simp only [intOf]; omega⟩
                · have hki' : decide ((k : Int) < (i : Int)) = false := by simp; omega
                  obtain rfl : k = i := by omega
                  have he := HE.out
                  rw [List.take_of_length_le (by rw [HN.out]; omega), ← HMM.out] at he
                  have hfl : (l.filterMap (callC size (atTo l))).length ≤ 200 := Nat.le_trans (List.length_filterMap_le _ _) (by rw [HN.out]; omega)
                  have hll : (mgAll (l.filterMap (callC size (atTo l))) []).length ≤ 200 := by
                    have := mgAll_len (l.filterMap (callC size (atTo l))) []
                    simp at this
                    omega
                  have hfew := mgAll_few (xs := l.filterMap (callC size (atTo l))) (M := []) (c := 0) (fun e he => by
                    obtain ⟨z, _, hz⟩ := List.mem_filterMap.1 he
                    exact callC_one hz) (fun p hp => by cases hp) List.nodup_nil
                  have hli := deList wr he (by omega)
                  have HFEW := Lib.hid hfew
                  have HFL := Lib.hid hfl
                  clear hfew hfl hll he HE HM
                  go_wp2_with fail
                  refine hli.mono ?_
                  rintro en w8 (⟨⟨p, hp, hlt⟩, -, -⟩ | ⟨-, A8, c8, n8, out, hperm, hsort, hlen8, rfl, hown, hb8⟩)
                  · have h1 := HFEW.out p hp
                    have h2 := HFL.out
                    omega
                  · go_wp2_with fail
                    go_ret2
                    exact ⟨HB.out.trans (hb8.mono HB.out.size), .inr ⟨HNB.out, .inr ⟨HZ0.out, A8, c8, n8, out, hperm, hsort, hlen8, rfl, own_baseJ hown HB.out.size⟩⟩⟩
      · have hqn' : ((q : Int) != (i : Int)) = true := by simp; omega
        go_wp2_with fail
        go_ret2
        exact ⟨HB.out, .inl ⟨.inr (.inl (by rw [HMM.out, HQ.out, HN.out]; exact hqn)), rfl⟩⟩
end Go.Proofs.Ythaiplhjekkooaa

/- deps: the examples that each statement of layer 24 asks first: 'lives' answers true. -/
namespace Go.Proofs.Ythaiplhjekkooaa
open Go.RowKit

set_option maxRecDepth 100000 in
theorem lawEdge (e : Ed) (w : World) : Calls Try.prog 23 #[.int .u64 e.b, .string e.f, .string e.t, .int .u64 e.n] w fun en w' => en = .returned (edV e) ∧ Below w.heap.size w w' := by
  go_enter Try.func23, Try.ntmps23
  go_wp2
  refine bodyPost_ret (results_cell_row rfl _ _ w.heap.size 47 (edA e) (0, 0) _ rfl ?_ Try.underlying47 rfl ?_) rfl ?_
  · show (w.alloc _).heap[w.heap.size]? = _
    rw [heap_alloc_new]
  · rfl
  · exact ⟨rfl, (Below.refl _ w).alloc (Nat.le_refl _) _⟩
/-- The law's span. -/
def lawA (id up : Nat) (service : ByteArray) (start : Int) : Ad := ⟨⟨0, 1, id, up, service, ⟨#[120]⟩, 0, start, 0, false, []⟩, up, 0, 0⟩
set_option maxRecDepth 100000 in
theorem lawSp (id up : Nat) (service : ByteArray) (start : Int) (w : World) : Calls Try.prog 43 #[.int .u64 id, .int .u64 up, .string service, .int .i64 start] w fun en w' => en = .returned (adV (lawA id up service start) none 0 0) ∧ Below w.heap.size w w' := by
  go_enter Try.func43, Try.ntmps43
  go_wp2
  refine bodyPost_ret (results_cell_row rfl _ _ w.heap.size 45 (adC (lawA id up service start) none 0 0) (0, 0) _ rfl ?_ Try.underlying45 rfl ?_) rfl ?_
  · show (w.alloc _).heap[w.heap.size]? = _
    rw [heap_alloc_new]
    rfl
  · rfl
  · exact ⟨rfl, (Below.refl _ w).alloc (Nat.le_refl _) _⟩
def exE (id up : Nat) (service : ByteArray) (start : Int) : AE := ⟨lawA id up service start, none, 0, 0⟩
def exL : List AE := [exE 1 0 ⟨#[97]⟩ 0, exE 2 1 ⟨#[98]⟩ 5, exE 3 1 ⟨#[98]⟩ 12, exE 4 2 ⟨#[98]⟩ 6]
set_option maxRecDepth 100000 in
theorem lawExample (w : World) : Calls Try.prog 22 #[] w fun en w' => ∃ b c, en = .returned (.slice (some ⟨b, 0, none⟩) 4 c) ∧ RbA w' w'.heap.size (some ⟨b, 0, none⟩) exL ∧ Below w.heap.size w w' := by
  go_enter Try.func22, Try.ntmps22
  go_wp2_with fail
  refine (lawSp 1 0 ⟨#[97]⟩ 0 w).mono ?_
  rintro e w1 ⟨rfl, hb1⟩
  go_wp2_with fail
  refine (lawSp 2 1 ⟨#[98]⟩ 5 w1).mono ?_
  rintro e w2 ⟨rfl, hb2⟩
  go_wp2_with fail
  refine (lawSp 3 1 ⟨#[98]⟩ 12 w2).mono ?_
  rintro e w3 ⟨rfl, hb3⟩
  go_wp2_with fail
  refine (lawSp 4 2 ⟨#[98]⟩ 6 w3).mono ?_
  rintro e w4 ⟨rfl, hb4⟩
  have hb02 := hb1.trans (hb2.mono hb1.size)
  have hb03 := hb02.trans (hb3.mono hb02.size)
  have hb04 := hb03.trans (hb4.mono hb03.size)
  have hr : RbA (w4.alloc (.cells (adC (lawA 1 0 ⟨#[97]⟩ 0) none 0 0 ++ adC (lawA 2 1 ⟨#[98]⟩ 5) none 0 0 ++ adC (lawA 3 1 ⟨#[98]⟩ 12) none 0 0 ++ adC (lawA 4 2 ⟨#[98]⟩ 6) none 0 0) 45)) (w4.heap.size + 1) (some ⟨w4.heap.size, 0, none⟩) exL := by
    refine ⟨?_, fun e he => ?_⟩
    · have h := Rd.lit w4 (adC (lawA 1 0 ⟨#[97]⟩ 0) none 0 0 ++ adC (lawA 2 1 ⟨#[98]⟩ 5) none 0 0 ++ adC (lawA 3 1 ⟨#[98]⟩ 12) none 0 0 ++ adC (lawA 4 2 ⟨#[98]⟩ 6) none 0 0) 45
      exact h
    · simp only [exL, List.mem_cons, List.not_mem_nil, or_false] at he
      rcases he with rfl | rfl | rfl | rfl <;> exact ⟨Rd.nil, rfl, by show (0 : Nat) ≤ _; omega, by unfold Ad.Ok Sp.U64 exE lawA; simp⟩
  have hal := hb04.alloc hb04.size (.cells (adC (lawA 1 0 ⟨#[97]⟩ 0) none 0 0 ++ adC (lawA 2 1 ⟨#[98]⟩ 5) none 0 0 ++ adC (lawA 3 1 ⟨#[98]⟩ 12) none 0 0 ++ adC (lawA 4 2 ⟨#[98]⟩ 6) none 0 0) 45)
  have HR := Lib.hid hr
  have HA := Lib.hid hal
  clear hr hal hb1 hb2 hb3 hb4 hb02 hb03 hb04
  go_wp2_with fail
  go_ret
  exact ⟨_, _, rfl, by rw [World.size_alloc]; exact HR.out, HA.out⟩
def exO : List Ed := [⟨0, ⟨#[97]⟩, ⟨#[98]⟩, 1⟩, ⟨1, ⟨#[97]⟩, ⟨#[98]⟩, 1⟩]
theorem exOut : edOut (ads exL) 10 = (exO, 0) := by decide +kernel
theorem zeroChk : edChk [⟨0, ⟨#[]⟩, ⟨#[]⟩, 0⟩] = 2 := by decide +kernel
theorem edLaw {A : Option Addr} {n c B : Nat} (l : List AE) (size : Int) (w : World) (h : RbA w B A l) (hn : l.length = n) (hB : B ≤ w.heap.size) (hnl : n ≤ 200) (hs0 : -9223372036854775808 ≤ size) (hs1 : size ≤ 9223372036854775807)
    (hst : ∀ e ∈ l, e.a.s.start ≤ 9223372036854775807 ∧ -9223372036854775808 ≤ e.a.s.start) :
    Calls Try.prog 10 #[.slice A n c, .int .i64 size] w (EdsPost w (edOut (ads l) size)) :=
  (deEdges l size w h hn hB hnl hs0 hs1 hst).mono fun e w' h => edgC_out (by omega) h
set_option maxRecDepth 100000 in
theorem deLives (w : World) : Calls Try.prog 8 #[] w fun en w' => en = .returned (.bool true) ∧ Below w.heap.size w w' := by
  go_enter Try.func8, Try.ntmps8
  go_wp2_with fail
  refine (lawExample w).mono ?_
  rintro e w1 ⟨b, c, rfl, hr1, hb1⟩
  have ce := edLaw (c := c) exL 10 w1 hr1 (n := 4) rfl (Nat.le_refl _) (by omega) (by omega) (by omega) (fun e he => by
    simp only [exL, List.mem_cons, List.not_mem_nil, or_false] at he
    rcases he with rfl | rfl | rfl | rfl <;> simp [exE, lawA])
  rw [exOut] at ce
  go_wp2_with fail
  refine ce.mono ?_
  rintro e w2 ⟨A2, c2, rfl, hown2, hb2⟩
  have hb02 := hb1.trans (hb2.mono hb1.size)
  have hr2 : RbD w2 w2.heap.size A2 exO := Rd.of_own hown2
  clear ce hr1
  go_wp2_with fail
  refine (lawEdge ⟨0, ⟨#[97]⟩, ⟨#[98]⟩, 1⟩ w2).mono ?_
  rintro e w3 ⟨rfl, hb3⟩
  go_wp2_with fail
  refine (lawEdge ⟨1, ⟨#[97]⟩, ⟨#[98]⟩, 1⟩ w3).mono ?_
  rintro e w4 ⟨rfl, hb4⟩
  have hb04 := (hb02.trans (hb3.mono hb02.size)).trans (hb4.mono (hb02.trans (hb3.mono hb02.size)).size)
  have hb24 := hb3.trans (hb4.mono hb3.size)
  have hr5 : RbD (w4.alloc (.cells (edA ⟨0, ⟨#[97]⟩, ⟨#[98]⟩, 1⟩ ++ edA ⟨1, ⟨#[97]⟩, ⟨#[98]⟩, 1⟩) 47)) (w4.heap.size + 1) (some ⟨w4.heap.size, 0, none⟩) exO := Rd.lit w4 (edA ⟨0, ⟨#[97]⟩, ⟨#[98]⟩, 1⟩ ++ edA ⟨1, ⟨#[97]⟩, ⟨#[98]⟩, 1⟩) 47
  have hb5 := hb04.alloc hb04.size (.cells (edA ⟨0, ⟨#[97]⟩, ⟨#[98]⟩, 1⟩ ++ edA ⟨1, ⟨#[97]⟩, ⟨#[98]⟩, 1⟩) 47)
  have hr25 := Rd.belowS hr2 (hb24.alloc hb24.size (.cells (edA ⟨0, ⟨#[97]⟩, ⟨#[98]⟩, 1⟩ ++ edA ⟨1, ⟨#[97]⟩, ⟨#[98]⟩, 1⟩) 47))
  have cs := kitSameEds (c := c2) (c' := 2) exO exO _ hr25 hr5 (n := 2) (n' := 2) rfl rfl (by omega)
  rw [show decide (exO = exO) = true from decide_eq_true rfl] at cs
  have CS := Lib.hid cs
  have HB5 := Lib.hid hb5
  clear hr25 hr5 hb5 hb24 hb04 hb3 hb4 hr2 hown2 hb02 hb2 hb1 cs
  go_wp2_with fail
  refine CS.out.mono ?_
  rintro e w6 ⟨rfl, d6, rfl⟩
  have hb6 := below_drewN HB5.out d6
  obtain ⟨w6, hw6⟩ : ∃ w6, (w4.alloc (.cells (edA ⟨0, ⟨#[97]⟩, ⟨#[98]⟩, 1⟩ ++ edA ⟨1, ⟨#[97]⟩, ⟨#[98]⟩, 1⟩) 47)).drewN d6 = w6 := ⟨_, rfl⟩
  rw [hw6] at hb6
  have hrz : RbD (w6.alloc (.cells (edA ⟨0, ⟨#[]⟩, ⟨#[]⟩, 0⟩) 47)) (w6.heap.size + 1) (some ⟨w6.heap.size, 0, none⟩) [⟨0, ⟨#[]⟩, ⟨#[]⟩, 0⟩] := by
    have h := Rd.lit w6 (edA ⟨0, ⟨#[]⟩, ⟨#[]⟩, 0⟩) 47
    exact h
  have hb7 := hb6.alloc hb6.size (.cells (edA ⟨0, ⟨#[]⟩, ⟨#[]⟩, 0⟩) 47)
  have cz := deCheck (c := 1) _ _ hrz (n := 1) rfl (by simp) (by omega)
  rw [zeroChk] at cz
  have CZ := Lib.hid cz
  have HB7 := Lib.hid hb7
  have HW6 := Lib.hid hw6
  clear cz hb7 hrz hb6 hw6 CS HB5
  try rw [HW6.out]
  go_wp2_with fail
  try rw [HW6.out]
  refine CZ.out.mono ?_
  rintro e w8 ⟨rfl, hb8⟩
  go_wp2_with fail
  go_ret
  exact ⟨rfl, HB7.out.trans (hb8.mono HB7.out.size)⟩
end Go.Proofs.Ythaiplhjekkooaa
