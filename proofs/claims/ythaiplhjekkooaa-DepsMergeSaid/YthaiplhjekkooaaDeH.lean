/- deps: compare; the order of edges. -/
import Derived.Test.YthaiplhjekkooaaSpG0
import Derived.Test.YthaiplhjekkooaaSpN
import Derived.Test.YthaiplhjekkooaaDeF
namespace Go.Proofs.Ythaiplhjekkooaa
open Go.RowKit

def ekCmp (a b : Ek) : Int := orL [cmpI a.b b.b, cmpS a.f b.f, cmpS a.t b.t]
theorem ekCmp_cmp : Cmp ekCmp := by
  have h := (cmpI_cmp.lex (cmpS_cmp.lex cmpS_cmp)).pull (fun e : Ek => ((e.b : Int), e.f, e.t)) (fun x y h => by
    obtain ⟨xb, xf, xt⟩ := x
    obtain ⟨yb, yf, yt⟩ := y
    simp at h
    obtain ⟨h1, h2, h3⟩ := h
    have h1 : xb = yb := by omega
    subst h1 h2 h3
    rfl)
  have e : ekCmp = fun x y : Ek => if cmpI x.b y.b ≠ 0 then cmpI x.b y.b else if cmpS x.f y.f ≠ 0 then cmpS x.f y.f else cmpS x.t y.t := by
    funext x y
    simp only [ekCmp, orL]
    by_cases h1 : cmpI x.b y.b = 0
    · by_cases h2 : cmpS x.f y.f = 0
      · by_cases h3 : cmpS x.t y.t = 0 <;> simp [h1, h2, h3]
      · simp [h1, h2]
    · simp [h1]
  rw [e]
  exact h
def edK (e : Ed) : Ek := ⟨e.b, e.f, e.t⟩
def SortEd (l : List Ed) : Prop := l.Pairwise fun a b => ekCmp (edK a) (edK b) ≤ 0
theorem strLt_cmpS (s t : ByteArray) : strLt s t = decide (cmpS s t = -1) := by
  rcases strLt_ways s t with ⟨h1, h2⟩ | ⟨h1, -, h2⟩ | ⟨h1, -, h2⟩ <;> rw [h1, h2] <;> rfl
theorem ekCmp_def (a b : Ek) : ekCmp a b = if cmpI a.b b.b ≠ 0 then cmpI a.b b.b else if cmpS a.f b.f ≠ 0 then cmpS a.f b.f else cmpS a.t b.t := by
  simp only [ekCmp, orL]
  by_cases h1 : cmpI a.b b.b = 0
  · by_cases h2 : cmpS a.f b.f = 0
    · by_cases h3 : cmpS a.t b.t = 0 <;> simp [h1, h2, h3]
    · simp [h1, h2]
  · simp [h1]
theorem edLt_cmp (a b : Ed) : edLt a b = true ↔ ekCmp (edK a) (edK b) = -1 := by
  rw [ekCmp_def]
  show _ ↔ (if cmpI a.b b.b ≠ 0 then cmpI a.b b.b else if cmpS a.f b.f ≠ 0 then cmpS a.f b.f else cmpS a.t b.t) = -1
  unfold edLt
  by_cases h1 : a.b = b.b
  · have e1 : cmpI (a.b : Int) (b.b : Int) = 0 := (cmpI_cmp.eq _ _).2 (by omega)
    rw [if_neg (show ¬ a.b ≠ b.b from fun h => h h1), if_neg (show ¬ cmpI (a.b : Int) (b.b : Int) ≠ 0 from fun h => h e1)]
    by_cases h2 : a.f = b.f
    · have e2 : cmpS a.f b.f = 0 := (cmpS_cmp.eq _ _).2 h2
      rw [if_neg (show ¬ a.f ≠ b.f from fun h => h h2), if_neg (show ¬ cmpS a.f b.f ≠ 0 from fun h => h e2), strLt_cmpS, decide_eq_true_eq]
    · have e2 : cmpS a.f b.f ≠ 0 := fun h => h2 ((cmpS_cmp.eq _ _).1 h)
      rw [if_pos h2, if_pos e2, strLt_cmpS, decide_eq_true_eq]
  · have e1 : cmpI (a.b : Int) (b.b : Int) ≠ 0 := fun h => h1 (by have := (cmpI_cmp.eq _ _).1 h; omega)
    rw [if_pos h1, if_pos e1, decide_eq_true_eq, cmpI]
    constructor
    · intro h
      rw [if_pos (by omega)]
    · intro h
      by_cases h3 : (a.b : Int) < (b.b : Int)
      · omega
      · rw [if_neg h3] at h
        split at h <;> simp at h
set_option maxRecDepth 100000 in
set_option maxHeartbeats 2000000 in
theorem deCompare (x y : Ed) (w : World) :
    Calls Try.prog 42 #[edV x, edV y] w fun e w' => e = .returned (.int .i64 (ekCmp (edK x) (edK y))) ∧ Below w.heap.size w w' ∧ w.drawn ≤ w'.drawn := by
  have b1 := (Bk.new w 47 (edA x)).alloc (.cells (edA y) 47)
  have b2 := Bk.new (w.alloc (.cells (edA x) 47)) 47 (edA y)
  rw [World.size_alloc] at b2
  have hb0 : Below w.heap.size w ((w.alloc (.cells (edA x) 47)).alloc (.cells (edA y) 47)) := ((Below.refl _ w).alloc (Nat.le_refl _) _).alloc (by simp) _
  obtain ⟨W, hW⟩ : ∃ W, (w.alloc (.cells (edA x) 47)).alloc (.cells (edA y) 47) = W := ⟨_, rfl⟩
  rw [hW] at b1 b2 hb0
  have HW := Lib.hid hW
  obtain ⟨g, hg⟩ : ∃ g, w.heap.size = g := ⟨_, rfl⟩
  rw [hg] at b1 b2
  have HG := Lib.hid hg
  have k10 : W.cell? ⟨g, 0, none⟩ = some (.int .u64 x.b) := b1.cell 0
  have k11 : W.cell? ⟨g, 1, none⟩ = some (.string x.f) := b1.cell 1
  have k12 : W.cell? ⟨g, 2, none⟩ = some (.string x.t) := b1.cell 2
  have k20 : W.cell? ⟨g + 1, 0, none⟩ = some (.int .u64 y.b) := b2.cell 0
  have k21 : W.cell? ⟨g + 1, 1, none⟩ = some (.string y.f) := b2.cell 1
  have k22 : W.cell? ⟨g + 1, 2, none⟩ = some (.string y.t) := b2.cell 2
  have hsz := hb0.size
  obtain ⟨xb, hxb⟩ : ∃ q, x.b = q := ⟨_, rfl⟩
  obtain ⟨xf, hxf⟩ : ∃ q, x.f = q := ⟨_, rfl⟩
  obtain ⟨xt, hxt⟩ : ∃ q, x.t = q := ⟨_, rfl⟩
  obtain ⟨yb, hyb⟩ : ∃ q, y.b = q := ⟨_, rfl⟩
  obtain ⟨yf, hyf⟩ : ∃ q, y.f = q := ⟨_, rfl⟩
  obtain ⟨yt, hyt⟩ : ∃ q, y.t = q := ⟨_, rfl⟩
  have hres : ekCmp (edK x) (edK y) = orL [cmpI xb yb, cmpS xf yf, cmpS xt yt] := by rw [ekCmp, edK, edK, hxb, hxf, hxt, hyb, hyf, hyt]
  rw [hres]
  rw [hxb] at k10
  rw [hxf] at k11
  rw [hxt] at k12
  rw [hyb] at k20
  rw [hyf] at k21
  rw [hyt] at k22
  obtain ⟨c1, hc1⟩ : ∃ c, cmpI xb yb = c := ⟨_, rfl⟩
  obtain ⟨c2, hc2⟩ : ∃ c, cmpS xf yf = c := ⟨_, rfl⟩
  obtain ⟨c3, hc3⟩ : ∃ c, cmpS xt yt = c := ⟨_, rfl⟩
  have u1 := fun w => cmpU xb yb w
  rw [hc1] at u1
  have u2 := fun w => cmpStr xf yf w
  rw [hc2] at u2
  have u3 := fun w => cmpStr xt yt w
  rw [hc3] at u3
  rw [hc1, hc2, hc3]
  obtain ⟨q, hq⟩ : ∃ q, orL [c1, c2, c3] = q := ⟨_, rfl⟩
  rw [hq]
  have HQ := Lib.hid hq
  have HB := Lib.hid hb0
  have bo := (Bk.new W 3 #[.int .i64 c1, .int .i64 c2, .int .i64 c3]).drew
  have hor := cmpOr (l := [c1, c2, c3]) (n := 3) _ rfl (by decide) bo
  rw [hq] at hor
  have HOR := Lib.hid hor
  clear hor hW hg b1 b2 hc1 hc2 hc3 hres hq hb0 hxb hxf hxt hyb hyf hyt bo
  go_enter Try.func42, Try.ntmps42
  go_upto_region 1 with fail
  rw [HW.out, HG.out]
  go_region_held3 (fun w' => w'.cell? ⟨g, 0, none⟩ = some (.int .u64 xb) ∧ w'.cell? ⟨g, 1, none⟩ = some (.string xf) ∧ w'.cell? ⟨g, 2, none⟩ = some (.string xt) ∧ w'.cell? ⟨g + 1, 0, none⟩ = some (.int .u64 yb) ∧ w'.cell? ⟨g + 1, 1, none⟩ = some (.string yf) ∧ w'.cell? ⟨g + 1, 2, none⟩ = some (.string yt))
    (go_keep)
    (first
      | (go_at_call 58
         refine (u1 _).mono ?_
         rintro e w' ⟨rfl, hw⟩
         rw [hw]
         clear hw w')
      | (go_at_call_of 59 (Value.string xf)
         refine (u2 _).mono ?_
         rintro e w' ⟨rfl, hw⟩
         rw [hw]
         clear hw w')
      | (go_at_call_of 59 (Value.string xt)
         refine (u3 _).mono ?_
         rintro e w' ⟨rfl, hw⟩
         rw [hw]
         clear hw w')
      | (go_at_call 57
         refine HOR.out.mono ?_
         rintro e w' ⟨rfl, hw⟩
         rw [hw]
         clear hw w')
      | fail)
  all_goals
    go_wp2
    go_ret
    exact ⟨rfl, below_drewN (HB.out.alloc hsz (.cells #[.int .i64 c1, .int .i64 c2, .int .i64 c3] 3)) 1, by rw [← HW.out]; exact Nat.le_add_right w.drawn 1⟩
end Go.Proofs.Ythaiplhjekkooaa
