/- Edges: the document's before; kit's SameEdges. -/
import Derived.Deep.Cut
import Derived.Deep.QuietTactic
import Derived.BigQuiet
import Derived.Test.YthaiplhjekkooaaDeA
namespace Go.Proofs.Ythaiplhjekkooaa
open Go.RowKit
theorem loadEd_shutB2 (a : Addr) : loadVar 47 a = loadK 47 a := rfl
attribute [local go_sem ↓] loadEd_shutB2

/-- Is an edge ahead of another one? -/
def edLt (a b : Ed) : Bool := if a.b ≠ b.b then decide (a.b < b.b) else if a.f ≠ b.f then strLt a.f b.f else strLt a.t b.t
set_option maxRecDepth 100000 in
set_option maxHeartbeats 2000000 in
theorem rDeBefore (x y : Ed) (w : World) : Calls Try.prog 48 #[edV x, edV y] w fun e w' => e = .returned (.bool (edLt x y)) ∧ Below w.heap.size w w' := by
  have hb0 : Below w.heap.size w ((w.alloc (.cells (edA x) 47)).alloc (.cells (edA y) 47)) := ((Below.refl _ w).alloc (Nat.le_refl _) _).alloc (by simp) _
  have bk1 := (Bk.new w 47 (edA x)).alloc (.cells (edA y) 47)
  have bk2 := Bk.new (w.alloc (.cells (edA x) 47)) 47 (edA y)
  rw [World.size_alloc] at bk2
  obtain ⟨w1, hw1⟩ : ∃ w1, (w.alloc (.cells (edA x) 47)).alloc (.cells (edA y) 47) = w1 := ⟨_, rfl⟩
  obtain ⟨g, hg⟩ : ∃ g, w.heap.size = g := ⟨_, rfl⟩
  rw [hw1] at hb0 bk1 bk2
  rw [hg] at bk1 bk2
  have x0 : w1.cell? ⟨g, 0, none⟩ = some (.int .u64 x.b) := bk1.cell 0
  have x1 : w1.cell? ⟨g, 1, none⟩ = some (.string x.f) := bk1.cell 1
  have x2 : w1.cell? ⟨g, 2, none⟩ = some (.string x.t) := bk1.cell 2
  have y0 : w1.cell? ⟨g + 1, 0, none⟩ = some (.int .u64 y.b) := bk2.cell 0
  have y1 : w1.cell? ⟨g + 1, 1, none⟩ = some (.string y.f) := bk2.cell 1
  have y2 : w1.cell? ⟨g + 1, 2, none⟩ = some (.string y.t) := bk2.cell 2
  obtain ⟨r, hr⟩ : ∃ r, edLt x y = r := ⟨_, rfl⟩
  rw [hr]
  unfold edLt at hr
  obtain ⟨xb, hxb⟩ : ∃ q, x.b = q := ⟨_, rfl⟩
  obtain ⟨xf, hxf⟩ : ∃ q, x.f = q := ⟨_, rfl⟩
  obtain ⟨xt, hxt⟩ : ∃ q, x.t = q := ⟨_, rfl⟩
  obtain ⟨yb, hyb⟩ : ∃ q, y.b = q := ⟨_, rfl⟩
  obtain ⟨yf, hyf⟩ : ∃ q, y.f = q := ⟨_, rfl⟩
  obtain ⟨yt, hyt⟩ : ∃ q, y.t = q := ⟨_, rfl⟩
  rw [hxb] at x0 hr
  rw [hxf] at x1 hr
  rw [hxt] at x2 hr
  rw [hyb] at y0 hr
  rw [hyf] at y1 hr
  rw [hyt] at y2 hr
  have HW := Lib.hid hw1
  have HG := Lib.hid hg
  have HR := Lib.hid hr
  clear hw1 hg hr bk1 bk2 hxb hxf hxt hyb hyf hyt
  go_enter Try.func48, Try.ntmps48
  go_upto_region 1 with fail
  rw [HW.out, HG.out]
  by_cases h1 : xb = yb
  · have h1' : ((xb : Int) != (yb : Int)) = false := by simp; omega
    by_cases h2 : xf = yf
    · subst h2
      have hr := HR.out
      rw [if_neg (by simp [h1]), if_neg (by simp)] at hr
      go_wp2_with fail
      go_ret
      exact ⟨by rw [← hr]; rfl, hb0⟩
    · have h2' : (xf.toList != yf.toList) = true := by rw [bne, strEq_of', decide_eq_false h2]; rfl
      have h2'' : (xf.toList == yf.toList) = false := by rw [strEq_of', decide_eq_false h2]
      have hr := HR.out
      rw [if_neg (by simp [h1]), if_pos h2] at hr
      go_wp2_with fail
      go_ret
      exact ⟨by rw [← hr]; rfl, hb0⟩
  · have h1' : ((xb : Int) != (yb : Int)) = true := by simp; omega
    have hr := HR.out
    rw [if_pos h1] at hr
    have hd : decide ((xb : Int) < (yb : Int)) = r := by rw [← hr]; simp
    go_wp2_with fail
    go_ret
    exact ⟨by rw [← hd]; rfl, hb0⟩
theorem neqEd (W : World) (x y : Ed) : (binOp .neq 47 (edV x) (edV y)).run Try.prog W = .ok (.bool (!decide (x = y))) W := by
  obtain ⟨xb, xf, xt, xn⟩ := x
  obtain ⟨yb, yf, yt, yn⟩ := y
  simp only [Ed.mk.injEq]
  have s1 : (xf.toList == yf.toList) = decide (xf = yf) := strEq_of'
  have s2 : (xt.toList == yt.toList) = decide (xt = yt) := strEq_of'
  by_cases h1 : xb = yb
  · subst h1
    have e1 : ((xb : Int) == (xb : Int)) = true := by simp
    by_cases h2 : xf = yf
    · subst h2
      by_cases h3 : xt = yt
      · subst h3
        by_cases h4 : xn = yn
        · subst h4
          simp only [and_self, decide_true, Bool.not_true]
          have e4 : ((xn : Int) == (xn : Int)) = true := by simp
          go_simp
        · have e4 : ((xn : Int) == (yn : Int)) = false := by simp; omega
          simp only [h4, and_false, decide_false, Bool.not_false]
          go_simp
      · rw [decide_eq_false h3] at s2
        simp only [h3, and_false, false_and, decide_false, Bool.not_false]
        go_simp
    · rw [decide_eq_false h2] at s1
      simp only [h2, and_false, false_and, decide_false, Bool.not_false]
      go_simp
  · have e1 : ((xb : Int) == (yb : Int)) = false := by simp; omega
    simp only [h1, false_and, decide_false, Bool.not_false]
    go_simp
set_option maxRecDepth 100000 in
set_option maxHeartbeats 2000000 in
theorem kitSameEds {A A' : Option Addr} {n n' c c' B B' : Nat} (l m : List Ed) (w : World) (h : RbD w B A l) (h' : RbD w B' A' m) (hn : l.length = n) (hn' : m.length = n') (hnl : n ≤ 9223372036854775807) :
    Calls Try.prog 14 #[.slice A n c, .slice A' n' c'] w fun e w' => e = .returned (.bool (decide (l = m))) ∧ ∃ d, w' = w.drewN d := by
  obtain ⟨q, hq⟩ : ∃ q, decide (l = m) = q := ⟨_, rfl⟩
  rw [hq]
  have HQ := Lib.hid hq
  have HN := Lib.hid hn
  have HN' := Lib.hid hn'
  clear hq hn hn'
  by_cases hne : n = n'
  · subst hne
    go_enter Try.func14, Try.ntmps14
    go_wp2_with fail
    go_loopw [5] (fun i_ wr => ∃ k d : Nat, k ≤ n ∧ i_ = .int .i64 k ∧ Hid (l.take k = m.take k) ∧ wr = w.drewN d) (fun i_ _ => n - (intOf i_).toNat)
    case atStart => exact ⟨0, 0, by omega, rfl, Lib.hid rfl, rfl⟩
    case round =>
      obtain ⟨k, d, hk, rfl, HT, rfl⟩ := hrel
      by_cases hlt : k < n
      · have hlt' : (k : Int) < (n : Int) := by omega
        obtain ⟨x, hx⟩ : ∃ x, l[k]? = some x := ⟨_, List.getElem?_eq_getElem (by rw [HN.out]; exact hlt)⟩
        obtain ⟨y, hy⟩ : ∃ y, m[k]? = some y := ⟨_, List.getElem?_eq_getElem (by rw [HN'.out]; exact hlt)⟩
        obtain ⟨b1, o1, e1, -, hc1⟩ := RbD.at (Rd.drewN h (d + 1)) hx
        obtain ⟨b2, o2, e2, -, hc2⟩ := RbD.at (Rd.drewN h' (d + 1)) hy
        subst e1 e2
        have lx := loadK_ed hc1
        have ly := loadK_ed hc2
        rw [← World.drewN_drewN] at lx ly
        have nq := fun W => neqEd W x y
        obtain ⟨tb, htb⟩ : ∃ tb, decide (x = y) = tb := ⟨_, rfl⟩
        simp only [htb] at nq
        have HTB := Lib.hid htb
        have HX := Lib.hid hx
        have HY := Lib.hid hy
        clear hc1 hc2 htb hx hy
        go_wp2_with fail
        go_region_held3 (fun w' => (loadK 47 ⟨b1, o1 + k * 4, none⟩).run Try.prog w' = .ok (edV x) w' ∧ (loadK 47 ⟨b2, o2 + k * 4, none⟩).run Try.prog w' = .ok (edV y) w')
          (exact ⟨lx, ly⟩) (fail)
        cases tb with
        | true =>
          have hxy : x = y := of_decide_eq_true HTB.out
          go_wp2_with fail
          exact ⟨⟨k + 1, d + 1, by omega, by go_num, Lib.hid (by rw [take_snoc HX.out, take_snoc HY.out, HT.out, hxy]), World.drewN_drewN _ d 1⟩, by simp only [intOf]; omega⟩
        | false =>
          have hqf : q = false := by
            rw [← HQ.out, decide_eq_false_iff_not]
            intro e
            have h1 := HX.out
            rw [e, HY.out] at h1
            exact (of_decide_eq_false HTB.out) (Option.some.inj h1).symm
          subst hqf
          go_wp2_with fail
          go_ret
          exact ⟨rfl, d + 1, World.drewN_drewN _ d 1⟩
      · have hlt' : decide ((k : Int) < (n : Int)) = false := by simp; omega
        have hqt : q = true := by
          rw [← HQ.out, decide_eq_true_eq]
          have := HT.out
          rwa [List.take_of_length_le (by rw [HN.out]; omega), List.take_of_length_le (by rw [HN'.out]; omega)] at this
        subst hqt
        go_wp2_with fail
        go_ret
        exact ⟨rfl, d, rfl⟩
  · have hqf : q = false := by
      rw [← HQ.out, decide_eq_false_iff_not]
      intro e
      exact hne (by rw [← HN.out, ← HN'.out, e])
    subst hqf
    have hne' : ((n : Int) != (n' : Int)) = true := by simp; omega
    go_enter Try.func14, Try.ntmps14
    go_wp2_with fail
    go_ret
    exact ⟨rfl, 0, rfl⟩
end Go.Proofs.Ythaiplhjekkooaa
