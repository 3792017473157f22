/- deps: Check. -/
import Derived.Test.YthaiplhjekkooaaSpM0
import Derived.Deep.RegionHeld3
import Derived.Test.YthaiplhjekkooaaDeH
import Derived.Test.YthaiplhjekkooaaDeC
namespace Go.Proofs.Ythaiplhjekkooaa
open Go.RowKit
theorem loadEd_shutQ (a : Addr) : loadVar 47 a = loadK 47 a := rfl
attribute [local go_sem ↓] loadEd_shutQ

def edFine (e : Ed) : Bool := decide (e.f ≠ ⟨#[]⟩) && decide (e.t ≠ ⟨#[]⟩) && decide (e.f ≠ e.t) && txtB e.f && txtB e.t && decide (1 ≤ e.n)
def edWrong (l : List Ed) (i : Nat) : Bool := match l[i]? with
  | some x => !edFine x || (match i with | 0 => false | k + 1 => match l[k]? with | some p => decide (0 ≤ ekCmp (edK p) (edK x)) | none => false)
  | none => false
def edWrongTo (l : List Ed) (i : Nat) : Bool := (List.range i).any (edWrong l)
theorem edWrongTo_succ (l : List Ed) (i : Nat) : edWrongTo l (i + 1) = (edWrongTo l i || edWrong l i) := by simp [edWrongTo, List.range_succ]
/-- What Check tells. -/
def edChk (l : List Ed) : Nat := if edWrongTo l l.length = true then 2 else 0
theorem edWrong_fall {l : List Ed} {i : Nat} {x : Ed} (hx : l[i]? = some x) (hf : edFine x = false) : edWrongTo l l.length = true := by
  have hl := (List.getElem?_eq_some_iff.1 hx).1
  have h1 : edWrongTo l (i + 1) = true := by rw [edWrongTo_succ, edWrong, hx]; simp [hf]
  rw [edWrongTo, List.any_eq_true] at h1 ⊢
  obtain ⟨j, hj, hw⟩ := h1
  exact ⟨j, List.mem_range.2 (by have := List.mem_range.1 hj; omega), hw⟩
theorem edWrong_at {l : List Ed} {i : Nat} (h : edWrong l i = true) (hi : i < l.length) : edWrongTo l l.length = true := by
  rw [edWrongTo, List.any_eq_true]
  exact ⟨i, List.mem_range.2 hi, h⟩
set_option maxRecDepth 100000 in
set_option maxHeartbeats 8000000 in
theorem deCheck {A : Option Addr} {n c B : Nat} (l : List Ed) (w : World) (h : RbD w B A l) (hn : l.length = n) (hB : B ≤ w.heap.size) (hnl : n ≤ 9223372036854775807) :
    Calls Try.prog 16 #[.slice A n c] w fun e w' => e = .returned (.int .i64 (edChk l)) ∧ Below w.heap.size w w' := by
  obtain ⟨r, hr⟩ : ∃ r, edChk l = r := ⟨_, rfl⟩
  rw [hr]
  rw [edChk] at hr
  have HR := Lib.hid hr
  have HN := Lib.hid hn
  have HH := Lib.hid h
  clear hr hn h
  go_enter Try.func16, Try.ntmps16
  go_wp2_with fail
  go_loopw [8] (fun i_ wr => ∃ i : Nat, i ≤ n ∧ i_ = .int .i64 i ∧ Hid (edWrongTo l i = false) ∧ Hid (Below w.heap.size w wr)) (fun i_ _ => n - (intOf i_).toNat)
  case atStart => exact ⟨0, by omega, rfl, Lib.hid rfl, Lib.hid (Below.refl _ _)⟩
  case round =>
    obtain ⟨i, hi, rfl, HG, HB⟩ := hrel
    by_cases hlt : i < n
    · have hlt' : (i : Int) < (n : Int) := by omega
      obtain ⟨x, hx⟩ : ∃ x, l[i]? = some x := ⟨_, List.getElem?_eq_getElem (by rw [HN.out]; exact hlt)⟩
      obtain ⟨b1, o1, eA, hbb, hc1⟩ := RbD.at (Rd.below HH.out (HB.out.mono hB)) hx
      subst eA
      have hld := loadK_ed hc1
      have hbA := (Below.refl wr.heap.size wr).alloc (Nat.le_refl _) (.cells (edA x) 47)
      have HB2 := Lib.hid (HB.out.alloc HB.out.size (.cells (edA x) 47))
      have HX := Lib.hid hx
      have HFALL := Lib.hid (fun hf : edFine x = false => show r = 2 by rw [← HR.out, if_pos (edWrong_fall hx hf)])
      clear hc1
      obtain ⟨xb, xf, xt, xn⟩ := x
      have hcond : edFine ⟨xb, xf, xt, xn⟩ = (decide (xf ≠ ⟨#[]⟩) && decide (xt ≠ ⟨#[]⟩) && decide (xf ≠ xt) && txtB xf && txtB xt && decide (1 ≤ xn)) := rfl
      obtain ⟨fb, hfb⟩ : ∃ fb, edFine ⟨xb, xf, xt, xn⟩ = fb := ⟨_, rfl⟩
      rw [hfb] at hcond
      have HFB := Lib.hid hfb
      have HC := Lib.hid hcond
      clear hcond hfb hx
      have e0 : (⟨#[]⟩ : ByteArray).toList = [] := by rw [ByteArray.toList_eq]
      have t1 := fun W => spText W xf
      have t2 := fun W => spText W xt
      obtain ⟨b4, hb4⟩ : ∃ b4, txtB xf = b4 := ⟨_, rfl⟩
      obtain ⟨b5, hb5⟩ : ∃ b5, txtB xt = b5 := ⟨_, rfl⟩
      simp only [hb4] at t1
      simp only [hb5] at t2
      have HCC := Lib.hid (show fb = (decide (xf ≠ ⟨#[]⟩) && decide (xt ≠ ⟨#[]⟩) && decide (xf ≠ xt) && b4 && b5 && decide (1 ≤ xn)) by rw [← hb4, ← hb5]; exact HC.out)
      have HFALL2 := Lib.hid (fun h : fb = false => HFALL.out (HFB.out.trans h))
      clear hb4 hb5 HC HFALL
      by_cases h1 : xf = ⟨#[]⟩
      · have hr2 : r = 2 := HFALL2.out (by rw [HCC.out]; simp [h1])
        subst h1
        have h1' : ((⟨#[]⟩ : ByteArray).toList == []) = true := by rw [e0]; rfl
        have h1'' : ((⟨#[]⟩ : ByteArray).toList != []) = false := by rw [e0]; rfl
        subst hr2
        go_wp2_with fail
        go_quiet (fail)
        go_wp2_with fail
        go_ret
        exact ⟨rfl, below_drewN HB2.out _⟩
      have h1' : (xf.toList == []) = false := by rw [← e0, strEq_of', decide_eq_false h1]
      have h1'' : (xf.toList != []) = true := by rw [bne, h1']; rfl
      by_cases h2 : xt = ⟨#[]⟩
      · have hr2 : r = 2 := HFALL2.out (by rw [HCC.out]; simp [h2])
        subst h2
        have h2' : ((⟨#[]⟩ : ByteArray).toList == []) = true := by rw [e0]; rfl
        have h2'' : ((⟨#[]⟩ : ByteArray).toList != []) = false := by rw [e0]; rfl
        subst hr2
        go_wp2_with fail
        go_quiet (fail)
        go_wp2_with fail
        go_ret
        exact ⟨rfl, below_drewN HB2.out _⟩
      have h2' : (xt.toList == []) = false := by rw [← e0, strEq_of', decide_eq_false h2]
      have h2'' : (xt.toList != []) = true := by rw [bne, h2']; rfl
      by_cases h3 : xf = xt
      · subst h3
        have hr2 : r = 2 := HFALL2.out (by rw [HCC.out]; simp)
        subst hr2
        go_wp2_with fail
        go_quiet (fail)
        go_wp2_with fail
        go_ret
        exact ⟨rfl, below_drewN HB2.out _⟩
      have h3' : (xf.toList == xt.toList) = false := by rw [strEq_of', decide_eq_false h3]
      have h3'' : (xf.toList != xt.toList) = true := by rw [bne, h3']; rfl
      cases b4 with
      | false =>
        have hr2 : r = 2 := HFALL2.out (by rw [HCC.out]; simp)
        subst hr2
        go_wp2_with fail
        refine (t1 _).mono ?_
        rintro en w5 ⟨rfl, hw5⟩
        rw [hw5]
        clear hw5
        go_wp2_with fail
        go_quiet (fail)
        go_wp2_with fail
        go_ret
        exact ⟨rfl, below_drewN HB2.out _⟩
      | true =>
      cases b5 with
      | false =>
        have hr2 : r = 2 := HFALL2.out (by rw [HCC.out]; simp)
        subst hr2
        go_wp2_with fail
        refine (t1 _).mono ?_
        rintro en w5 ⟨rfl, hw5⟩
        rw [hw5]
        clear hw5
        go_wp2_with fail
        refine (t2 _).mono ?_
        rintro en w5 ⟨rfl, hw5⟩
        rw [hw5]
        clear hw5
        go_wp2_with fail
        go_quiet (fail)
        go_wp2_with fail
        go_ret
        exact ⟨rfl, below_drewN HB2.out _⟩
      | true =>
      by_cases h6 : 1 ≤ xn
      · have h6' : decide ((1 : Int) ≤ (xn : Int)) = true := by simp; omega
        have hfb : fb = true := by rw [HCC.out]; simp [h1, h2, h3, h6]
        subst hfb
        go_wp2_with fail
        refine (t1 _).mono ?_
        rintro en w5 ⟨rfl, hw5⟩
        rw [hw5]
        clear hw5
        go_wp2_with fail
        refine (t2 _).mono ?_
        rintro en w5 ⟨rfl, hw5⟩
        rw [hw5]
        clear hw5
        go_wp2_with fail
        rcases Nat.eq_zero_or_pos i with h0 | h0
        · subst h0
          go_quiet (fail)
          go_wp2_with fail
          exact ⟨⟨1, by omega, rfl, Lib.hid (by rw [edWrongTo_succ, HG.out, edWrong, HX.out]; simp [HFB.out]), Lib.hid (below_drewN HB2.out _)⟩, by simp only [intOf]; omega⟩
        · obtain ⟨k, hk⟩ : ∃ k, i = k + 1 := ⟨i - 1, by omega⟩
          obtain ⟨p, hp⟩ : ∃ p, l[k]? = some p := ⟨_, List.getElem?_eq_getElem (by rw [HN.out]; omega)⟩
          obtain ⟨b1', o1', e1, -, hc2⟩ := RbD.at (Rd.below HH.out (HB2.out.mono hB)) hp
          cases e1
          have lp := loadK_ed hc2
          have lp2 : (loadK 47 ⟨b1, o1 + k * 4, none⟩).run Try.prog (wr.alloc (.cells (edA ⟨xb, xf, xt, xn⟩) 47)).drew = .ok (edV p) (wr.alloc (.cells (edA ⟨xb, xf, xt, xn⟩) 47)).drew := loadK_ed (w := (wr.alloc (.cells (edA ⟨xb, xf, xt, xn⟩) 47)).drew) hc2
          have bk := Bk.new wr 47 (edA ⟨xb, xf, xt, xn⟩)
          have lx2 : (loadK 47 ⟨wr.heap.size, 0, none⟩).run Try.prog (wr.alloc (.cells (edA ⟨xb, xf, xt, xn⟩) 47)).drew = .ok (edV ⟨xb, xf, xt, xn⟩) (wr.alloc (.cells (edA ⟨xb, xf, xt, xn⟩) 47)).drew := loadK_edB (w := (wr.alloc (.cells (edA ⟨xb, xf, xt, xn⟩) 47)).drew) bk
          have cc := deCompare p ⟨xb, xf, xt, xn⟩ (wr.alloc (.cells (edA ⟨xb, xf, xt, xn⟩) 47)).drew
          have HB3 := Lib.hid (below_drewN HB2.out 1)
          have h1i : (0 : Int) < (i : Int) := by omega
          have hlt1 : (k : Int) < (n : Int) := by omega
          have h1j : (1 : Int) ≤ (i : Int) := by omega
          have h2i : (i : Int) - 1 < (n : Int) := by omega
          have h3i : (0 : Int) ≤ (i : Int) - 1 := by omega
          have h4i : ((i : Int) - 1).toNat = k := by omega
          have hw : IntKind.i64.wrap ((i : Int) - 1) = (i : Int) - 1 := IntWalk.i64_in _ ⟨by omega, by omega⟩
          have hew : edWrong l i = decide (0 ≤ ekCmp (edK p) (edK ⟨xb, xf, xt, xn⟩)) := by
            rw [edWrong, HX.out]
            subst hk
            simp only [HFB.out, hp, Bool.not_true, Bool.false_or]
          have CLA : Hid (∀ W, Below (wr.alloc (.cells (edA ⟨xb, xf, xt, xn⟩) 47)).drew.heap.size (wr.alloc (.cells (edA ⟨xb, xf, xt, xn⟩) 47)).drew W → (loadK 47 ⟨b1, o1 + k * 4, none⟩).run Try.prog W = .ok (edV p) W ∧ (loadK 47 ⟨wr.heap.size, 0, none⟩).run Try.prog W = .ok (edV ⟨xb, xf, xt, xn⟩) W) := Lib.hid fun W hW =>
            ⟨loadK_ed fun j hj => (hW.cell (Nat.lt_of_lt_of_le hbb (Nat.le_trans hB HB2.out.size))).trans (hc2 j hj), loadK_edB ((show Bk (wr.alloc (.cells (edA ⟨xb, xf, xt, xn⟩) 47)).drew wr.heap.size _ _ from bk).below hW bk.lt)⟩
          obtain ⟨ct, hct⟩ : ∃ ct, ekCmp (edK p) (edK ⟨xb, xf, xt, xn⟩) = ct := ⟨_, rfl⟩
          rw [hct] at cc hew
          have HEW := Lib.hid hew
          have HK := Lib.hid hk
          have HCC2 := Lib.hid cc
          clear hew hk hp hc2 lp bk hct HB2 hld cc
          obtain ⟨W4, hW4⟩ : ∃ W4, wr.alloc (.cells (edA ⟨xb, xf, xt, xn⟩) 47) = W4 := ⟨_, rfl⟩
          obtain ⟨g4, hg4⟩ : ∃ g4, wr.heap.size = g4 := ⟨_, rfl⟩
          rw [hW4] at lp2 lx2 HCC2 HB3 CLA ⊢
          rw [hg4] at lx2 CLA ⊢
          clear hW4 hg4
          by_cases hct0 : 0 ≤ ct
          · have hr2 : r = 2 := by
              rw [← HR.out, if_pos (edWrong_at (i := i) (by rw [HEW.out]; simp [hct0]) (by rw [HN.out]; exact hlt))]
            subst hr2
            have hd : decide ((0 : Int) ≤ ct) = true := by simp [hct0]
            go_wp2_with fail
            go_region_held3 (fun w' => (loadK 47 ⟨b1, o1 + k * 4, none⟩).run Try.prog w' = .ok (edV p) w' ∧ (loadK 47 ⟨g4, 0, none⟩).run Try.prog w' = .ok (edV ⟨xb, xf, xt, xn⟩) w') (go_keep)
              (first
                | (go_at_call 42
                   refine HCC2.out.mono ?_
                   rintro en w3 ⟨rfl, hb3, -⟩
                   obtain ⟨s1, s2⟩ := CLA.out w3 hb3)
                | fail)
            go_wp2_with fail
            go_ret
            exact ⟨rfl, HB3.out.trans (hb3.mono HB3.out.size)⟩
          · have hd : decide ((0 : Int) ≤ ct) = false := by simp; omega
            have hct1 : ct < 0 := by omega
            go_wp2_with fail
            go_region_held3 (fun w' => (loadK 47 ⟨b1, o1 + k * 4, none⟩).run Try.prog w' = .ok (edV p) w' ∧ (loadK 47 ⟨g4, 0, none⟩).run Try.prog w' = .ok (edV ⟨xb, xf, xt, xn⟩) w') (go_keep)
              (first
                | (go_at_call 42
                   refine HCC2.out.mono ?_
                   rintro en w3 ⟨rfl, hb3, -⟩
                   obtain ⟨s1, s2⟩ := CLA.out w3 hb3)
                | fail)
            go_wp2_with fail
            exact ⟨⟨i + 1, by omega, by go_num, Lib.hid (by rw [edWrongTo_succ, HG.out, HEW.out]; simp; omega), Lib.hid (HB3.out.trans (hb3.mono HB3.out.size))⟩, by simp only [intOf]; omega⟩
      · have h6' : decide ((1 : Int) ≤ (xn : Int)) = false := by simp; omega
        have hr2 : r = 2 := HFALL2.out (by rw [HCC.out]; simp [h6])
        subst hr2
        go_wp2_with fail
        refine (t1 _).mono ?_
        rintro en w5 ⟨rfl, hw5⟩
        rw [hw5]
        clear hw5
        go_wp2_with fail
        refine (t2 _).mono ?_
        rintro en w5 ⟨rfl, hw5⟩
        rw [hw5]
        clear hw5
        go_wp2_with fail
        go_quiet (fail)
        go_wp2_with fail
        go_ret
        exact ⟨rfl, below_drewN HB2.out _⟩
    · have hlt' : decide ((i : Int) < (n : Int)) = false := by simp; omega
      obtain rfl : i = n := by omega
      have hr0 : r = 0 := by rw [← HR.out, HN.out, if_neg (by rw [HG.out]; simp)]
      subst hr0
      go_wp2_with fail
      go_ret
      exact ⟨rfl, HB.out⟩
end Go.Proofs.Ythaiplhjekkooaa
