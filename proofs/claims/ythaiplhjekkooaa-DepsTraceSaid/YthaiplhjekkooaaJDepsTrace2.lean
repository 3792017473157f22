/- Texts of the proof of DepsTraceSaid, joined: DeB Cel SpP0 SoA CpP SoR DeC DeD. -/
import Derived.Deep.Cut
import Derived.Deep.QuietTactic
import Derived.BigQuiet
import Derived.Test.YthaiplhjekkooaaJDepsTrace1
import Derived.Laws.ResultCell
import Derived.Deep.RegionHeld3
import Derived.Laws.OwnMore
import Derived.Deep.RegionWith
import Derived.StillTailTactics
/- Edges: the document's before; kit's SameEdges. -/
namespace Go.Proofs.Ythaiplhjekkooaa
open Go.RowKit
theorem loadEd_shutB2 (a : Addr) : loadVar 47 a = loadK 47 a := rfl
attribute [local go_sem ↓] loadEd_shutB2

/-- Is an edge ahead of another one? -/
def edLt (a b : Ed) : Bool := if a.b ≠ b.b then decide (a.b < b.b) else if a.f ≠ b.f then strLt a.f b.f else strLt a.t b.t
set_option maxRecDepth 100000 in
set_option maxHeartbeats 2000000 in
theorem rDeBefore (x y : Ed) (w : World) : Calls Try.prog 48 #[edV x, edV y] w fun e w' => e = .returned (.bool (edLt x y)) ∧ Below w.heap.size w w' := by
  have hb0 : Below w.heap.size w ((w.alloc (.cells (edA x) 47)).alloc (.cells (edA y) 47)) := ((Below.refl _ w).alloc (Nat.le_refl _) _).alloc (by simp) _
  have bk1 := (Bk.new w 47 (edA x)).alloc (.cells (edA y) 47)
  have bk2 := Bk.new (w.alloc (.cells (edA x) 47)) 47 (edA y)
  rw [World.size_alloc] at bk2
  obtain ⟨w1, hw1⟩ : ∃ w1, (w.alloc (.cells (edA x) 47)).alloc (.cells (edA y) 47) = w1 := ⟨_, rfl⟩
  obtain ⟨g, hg⟩ : ∃ g, w.heap.size = g := ⟨_, rfl⟩
  rw [hw1] at hb0 bk1 bk2
  rw [hg] at bk1 bk2
  have x0 : w1.cell? ⟨g, 0, none⟩ = some (.int .u64 x.b) := bk1.cell 0
  have x1 : w1.cell? ⟨g, 1, none⟩ = some (.string x.f) := bk1.cell 1
  have x2 : w1.cell? ⟨g, 2, none⟩ = some (.string x.t) := bk1.cell 2
  have y0 : w1.cell? ⟨g + 1, 0, none⟩ = some (.int .u64 y.b) := bk2.cell 0
  have y1 : w1.cell? ⟨g + 1, 1, none⟩ = some (.string y.f) := bk2.cell 1
  have y2 : w1.cell? ⟨g + 1, 2, none⟩ = some (.string y.t) := bk2.cell 2
  obtain ⟨r, hr⟩ : ∃ r, edLt x y = r := ⟨_, rfl⟩
  rw [hr]
  unfold edLt at hr
  obtain ⟨xb, hxb⟩ : ∃ q, x.b = q := ⟨_, rfl⟩
  obtain ⟨xf, hxf⟩ : ∃ q, x.f = q := ⟨_, rfl⟩
  obtain ⟨xt, hxt⟩ : ∃ q, x.t = q := ⟨_, rfl⟩
  obtain ⟨yb, hyb⟩ : ∃ q, y.b = q := ⟨_, rfl⟩
  obtain ⟨yf, hyf⟩ : ∃ q, y.f = q := ⟨_, rfl⟩
  obtain ⟨yt, hyt⟩ : ∃ q, y.t = q := ⟨_, rfl⟩
  rw [hxb] at x0 hr
  rw [hxf] at x1 hr
  rw [hxt] at x2 hr
  rw [hyb] at y0 hr
  rw [hyf] at y1 hr
  rw [hyt] at y2 hr
  have HW := Lib.hid hw1
  have HG := Lib.hid hg
  have HR := Lib.hid hr
  clear hw1 hg hr bk1 bk2 hxb hxf hxt hyb hyf hyt
  go_enter Try.func48, Try.ntmps48
  go_upto_region 1 with fail
  rw [HW.out, HG.out]
  by_cases h1 : xb = yb
  · have h1' : ((xb : Int) != (yb : Int)) = false := by simp; omega
    by_cases h2 : xf = yf
    · subst h2
      have hr := HR.out
      rw [if_neg (by simp [h1]), if_neg (by simp)] at hr
      go_wp2_with fail
      go_ret
      exact ⟨by rw [← hr]; rfl, hb0⟩
    · have h2' : (xf.toList != yf.toList) = true := by rw [bne, strEq_of', decide_eq_false h2]; rfl
      have h2'' : (xf.toList == yf.toList) = false := by rw [strEq_of', decide_eq_false h2]
      have hr := HR.out
      rw [if_neg (by simp [h1]), if_pos h2] at hr
      go_wp2_with fail
      go_ret
      exact ⟨by rw [← hr]; rfl, hb0⟩
  · have h1' : ((xb : Int) != (yb : Int)) = true := by simp; omega
    have hr := HR.out
    rw [if_pos h1] at hr
    have hd : decide ((xb : Int) < (yb : Int)) = r := by rw [← hr]; simp
    go_wp2_with fail
    go_ret
    exact ⟨by rw [← hd]; rfl, hb0⟩
theorem neqEd (W : World) (x y : Ed) : (binOp .neq 47 (edV x) (edV y)).run Try.prog W = .ok (.bool (!decide (x = y))) W := by
  obtain ⟨xb, xf, xt, xn⟩ := x
  obtain ⟨yb, yf, yt, yn⟩ := y
  simp only [Ed.mk.injEq]
  have s1 : (xf.toList == yf.toList) = decide (xf = yf) := strEq_of'
  have s2 : (xt.toList == yt.toList) = decide (xt = yt) := strEq_of'
  by_cases h1 : xb = yb
  · subst h1
    have e1 : ((xb : Int) == (xb : Int)) = true := by simp
    by_cases h2 : xf = yf
    · subst h2
      by_cases h3 : xt = yt
      · subst h3
        by_cases h4 : xn = yn
        · subst h4
          simp only [and_self, decide_true, Bool.not_true]
          have e4 : ((xn : Int) == (xn : Int)) = true := by simp
          go_simp
        · have e4 : ((xn : Int) == (yn : Int)) = false := by simp; omega
          simp only [h4, and_false, decide_false, Bool.not_false]
          go_simp
      · rw [decide_eq_false h3] at s2
        simp only [h3, and_false, false_and, decide_false, Bool.not_false]
        go_simp
    · rw [decide_eq_false h2] at s1
      simp only [h2, and_false, false_and, decide_false, Bool.not_false]
      go_simp
  · have e1 : ((xb : Int) == (yb : Int)) = false := by simp; omega
    simp only [h1, false_and, decide_false, Bool.not_false]
    go_simp
set_option maxRecDepth 100000 in
set_option maxHeartbeats 2000000 in
theorem kitSameEds {A A' : Option Addr} {n n' c c' B B' : Nat} (l m : List Ed) (w : World) (h : RbD w B A l) (h' : RbD w B' A' m) (hn : l.length = n) (hn' : m.length = n') (hnl : n ≤ 9223372036854775807) :
    Calls Try.prog 14 #[.slice A n c, .slice A' n' c'] w fun e w' => e = .returned (.bool (decide (l = m))) ∧ ∃ d, w' = w.drewN d := by
  obtain ⟨q, hq⟩ : ∃ q, decide (l = m) = q := ⟨_, rfl⟩
  rw [hq]
  have HQ := Lib.hid hq
  have HN := Lib.hid hn
  have HN' := Lib.hid hn'
  clear hq hn hn'
  by_cases hne : n = n'
  · subst hne
    go_enter Try.func14, Try.ntmps14
    go_wp2_with fail
    go_loopw [5] (fun i_ wr => ∃ k d : Nat, k ≤ n ∧ i_ = .int .i64 k ∧ Hid (l.take k = m.take k) ∧ wr = w.drewN d) (fun i_ _ => n - (intOf i_).toNat)
    case atStart => exact ⟨0, 0, by omega, rfl, Lib.hid rfl, rfl⟩
    case round =>
      obtain ⟨k, d, hk, rfl, HT, rfl⟩ := hrel
      by_cases hlt : k < n
      · have hlt' : (k : Int) < (n : Int) := by omega
        obtain ⟨x, hx⟩ : ∃ x, l[k]? = some x := ⟨_, List.getElem?_eq_getElem (by rw [HN.out]; exact hlt)⟩
        obtain ⟨y, hy⟩ : ∃ y, m[k]? = some y := ⟨_, List.getElem?_eq_getElem (by rw [HN'.out]; exact hlt)⟩
        obtain ⟨b1, o1, e1, -, hc1⟩ := RbD.at (Rd.drewN h (d + 1)) hx
        obtain ⟨b2, o2, e2, -, hc2⟩ := RbD.at (Rd.drewN h' (d + 1)) hy
        subst e1 e2
        have lx := loadK_ed hc1
        have ly := loadK_ed hc2
        rw [← World.drewN_drewN] at lx ly
        have nq := fun W => neqEd W x y
        obtain ⟨tb, htb⟩ : ∃ tb, decide (x = y) = tb := ⟨_, rfl⟩
        simp only [htb] at nq
        have HTB := Lib.hid htb
        have HX := Lib.hid hx
        have HY := Lib.hid hy
        clear hc1 hc2 htb hx hy
        go_wp2_with fail
        go_region_held3 (fun w' => (loadK 47 ⟨b1, o1 + k * 4, none⟩).run Try.prog w' = .ok (edV x) w' ∧ (loadK 47 ⟨b2, o2 + k * 4, none⟩).run Try.prog w' = .ok (edV y) w')
          (exact ⟨lx, ly⟩) (fail)
        cases tb with
        | true =>
          have hxy : x = y := of_decide_eq_true HTB.out
          go_wp2_with fail
          exact ⟨⟨k + 1, d + 1, by omega, by go_num, Lib.hid (by rw [take_snoc HX.out, take_snoc HY.out, HT.out, hxy]), World.drewN_drewN _ d 1⟩, by simp only [intOf]; omega⟩
        | false =>
          have hqf : q = false := by
            rw [← HQ.out, decide_eq_false_iff_not]
            intro e
            have h1 := HX.out
            rw [e, HY.out] at h1
            exact (of_decide_eq_false HTB.out) (Option.some.inj h1).symm
          subst hqf
          go_wp2_with fail
          go_ret
          exact ⟨rfl, d + 1, World.drewN_drewN _ d 1⟩
      · have hlt' : decide ((k : Int) < (n : Int)) = false := by simp; omega
        have hqt : q = true := by
          rw [← HQ.out, decide_eq_true_eq]
          have := HT.out
          rwa [List.take_of_length_le (by rw [HN.out]; omega), List.take_of_length_le (by rw [HN'.out]; omega)] at this
        subst hqt
        go_wp2_with fail
        go_ret
        exact ⟨rfl, d, rfl⟩
  · have hqf : q = false := by
      rw [← HQ.out, decide_eq_false_iff_not]
      intro e
      exact hne (by rw [← HN.out, ← HN'.out, e])
    subst hqf
    have hne' : ((n : Int) != (n' : Int)) = true := by simp; omega
    go_enter Try.func14, Try.ntmps14
    go_wp2_with fail
    go_ret
    exact ⟨rfl, 0, rfl⟩
end Go.Proofs.Ythaiplhjekkooaa

/- A span's cells in a block. -/
namespace Go.Proofs.Ythaiplhjekkooaa
open Go.RowKit

/-- The first field of a span: its trace. -/
theorem field_trace (W : World) (a b c d e f g h i j k : Value) : (Instr.field 43 (.agg #[a, b, c, d, e, f, g, h, i, j, k]) 0).run Try.prog W = .ok (.agg #[a, b]) W := by
  kernel_rfl
/-- The eleven cells of a span that lies in a block. -/
def Cells11 (g : Nat) (s : Sp) (A : Option Addr) (n c : Nat) (w' : World) : Prop := w'.cell? ⟨g, 0, none⟩ = some (.int .u64 s.hi) ∧ w'.cell? ⟨g, 1, none⟩ = some (.int .u64 s.lo) ∧ w'.cell? ⟨g, 2, none⟩ = some (.int .u64 s.id) ∧ w'.cell? ⟨g, 3, none⟩ = some (.int .u64 s.parent) ∧ w'.cell? ⟨g, 4, none⟩ = some (.string s.service) ∧ w'.cell? ⟨g, 5, none⟩ = some (.string s.name) ∧ w'.cell? ⟨g, 6, none⟩ = some (.int .i64 s.kind) ∧ w'.cell? ⟨g, 7, none⟩ = some (.int .i64 s.start) ∧ w'.cell? ⟨g, 8, none⟩ = some (.int .i64 s.length) ∧ w'.cell? ⟨g, 9, none⟩ = some (.bool s.fails) ∧ w'.cell? ⟨g, 10, none⟩ = some (.slice A n c)
theorem cells11 {w' : World} {g : Nat} {s : Sp} {A : Option Addr} {n c : Nat} (h : Bk w' g 43 (spC s A n c)) : w'.cell? ⟨g, 0, none⟩ = some (.int .u64 s.hi) ∧ w'.cell? ⟨g, 1, none⟩ = some (.int .u64 s.lo) ∧ w'.cell? ⟨g, 2, none⟩ = some (.int .u64 s.id) ∧ w'.cell? ⟨g, 3, none⟩ = some (.int .u64 s.parent) ∧ w'.cell? ⟨g, 4, none⟩ = some (.string s.service) ∧ w'.cell? ⟨g, 5, none⟩ = some (.string s.name) ∧ w'.cell? ⟨g, 6, none⟩ = some (.int .i64 s.kind) ∧ w'.cell? ⟨g, 7, none⟩ = some (.int .i64 s.start) ∧ w'.cell? ⟨g, 8, none⟩ = some (.int .i64 s.length) ∧ w'.cell? ⟨g, 9, none⟩ = some (.bool s.fails) ∧ w'.cell? ⟨g, 10, none⟩ = some (.slice A n c) :=
  ⟨h.cell 0, h.cell 1, h.cell 2, h.cell 3, h.cell 4, h.cell 5, h.cell 6, h.cell 7, h.cell 8, h.cell 9, h.cell 10⟩
end Go.Proofs.Ythaiplhjekkooaa

/- A span's zero; append of tags; rows. -/
namespace Go.Proofs.Ythaiplhjekkooaa
open Go.RowKit

def Sp.U64 (s : Sp) : Prop := s.hi < 18446744073709551616 ∧ s.lo < 18446744073709551616 ∧ s.id < 18446744073709551616 ∧ s.parent < 18446744073709551616
def zeroSp : Sp := ⟨0, 0, 0, 0, ⟨#[]⟩, ⟨#[]⟩, 0, 0, 0, false, []⟩
/-- A zero span's cells. -/
abbrev zspC : Array Value := #[.int .u64 0, .int .u64 0, .int .u64 0, .int .u64 0, .string ⟨#[]⟩, .string ⟨#[]⟩, .int .i64 0, .int .i64 0, .int .i64 0, .bool false, .slice none 0 0]
theorem tginfo : (Try.prog.info? 90).map (fun i => (i.zero, i.size, i.bytes)) = some (some (.agg #[.string ⟨#[]⟩, .string ⟨#[]⟩]), 2, 32) := by kernel_rfl
/-- append of tags. -/
theorem wp_appT (w : World) {o : Oper} {a : Act} {K : Act → World → Prop} {Q : Exit → Act → World → Prop} (s x : Operand)
    (ho : o.op = .call { callee := .builtin .append, args := #[s, x], argTypes := #[41, 41] })
    (base : Nat) (v : Value) (n : Nat) (l : List Tg) (hs : a.eval s = v) (hown : w.ownsRow base 90 2 v n (tgs l))
    (B : Nat) (A : Option Addr) (m c : Nat) (news : List Tg) (hx : a.eval x = .slice A m c) (hl : news.length = m) (hr : RbT w B A news)
    (hbytes : n + m ≤ 4398046511104) (hbase : base ≤ w.heap.size)
    (h : ∀ A' c' w', App base 90 2 w v w' (.slice A' (n + m) c') (n + m) (tgs (l ++ news)) → (A' = none → v = .slice none 0 0 ∧ m = 0) → K (a.put o.dst (.slice A' (n + m) c')) w') :
    o.wp Try.prog a w K Q := by
  obtain ⟨i0, hi0, hz0, hz1, hz2⟩ := info_parts tginfo
  refine wp_app w s x _ ho base 90 i0 _ 2 32 Try.underlying41 hi0 hz0 hz1 hz2 rfl (by omega) v n (tgs l) hs hown B A m c (tgs news) hx (by rw [tgs_length, hl]) hr (tgs_one news) (by simp only [maxLen]; omega) (by omega) hbase ?_
  intro A' c' w' h1 h2 h3 h4
  rw [← tgs_append] at h1
  exact h A' c' w' ((App.refl hown).step h1 h2 h3) h4
theorem step_appT {w : World} {ops : Array Oper} {o : Oper} {a : Act} {K : Act → World → Prop} {Q : Exit → Act → World → Prop} {E : Prop} (hgd : o.guard = none) (s x : Operand)
    (ho : o.op = .call { callee := .builtin .append, args := #[s, x], argTypes := #[41, 41] })
    (base : Nat) (v : Value) (n : Nat) (l : List Tg) (hs : a.eval s = v) (hown : w.ownsRow base 90 2 v n (tgs l))
    (B : Nat) (A : Option Addr) (m c : Nat) (news : List Tg) (hx : a.eval x = .slice A m c) (hl : news.length = m) (hr : RbT w B A news)
    (hbytes : n + m ≤ 4398046511104) (hbase : base ≤ w.heap.size)
    (h : ∀ A' c' w', App base 90 2 w v w' (.slice A' (n + m) c') (n + m) (tgs (l ++ news)) → (A' = none → v = .slice none 0 0 ∧ m = 0) → K (a.put o.dst (.slice A' (n + m) c')) w') :
    if Region.wanted o (yielded ops a.tmps) = true then Oper.wp Try.prog o a w K Q else E := by
  have hw : Region.wanted o (yielded ops a.tmps) = true := by simp [Region.wanted, hgd]
  rw [if_pos hw]
  exact wp_appT w s x ho base v n l hs hown B A m c news hx hl hr hbytes hbase h

/-- 'append', shut: what a walk through a drawn region is told of it by an equation. -/
def appK (ts : Array TypeId) (ty : TypeId) (vs : Array Value) : Sem Value := Builtin.append_ ts ty vs
theorem appK_shut (ts : Array TypeId) (ty : TypeId) (vs : Array Value) : Builtin.append_ ts ty vs = appK ts ty vs := rfl
theorem run_appT (w : World) (base : Nat) (v : Value) (n : Nat) (l : List Tg) (hown : w.ownsRow base 90 2 v n (tgs l))
    (B : Nat) (A : Option Addr) (m c : Nat) (news : List Tg) (hl : news.length = m) (hr : RbT w B A news) (hbytes : n + m ≤ 4398046511104) (hbase : base ≤ w.heap.size) :
    ∃ A' c' w', (appK #[41, 41] 41 #[v, .slice A m c]).run Try.prog w = .ok (.slice A' (n + m) c') w' ∧ App base 90 2 w v w' (.slice A' (n + m) c') (n + m) (tgs (l ++ news)) := by
  obtain ⟨i0, hi0, hz0, hz1, hz2⟩ := info_parts tginfo
  obtain ⟨v', w', hrun, h2, h3, h4, ⟨A', c', rfl⟩, h6⟩ := run_app (P := Try.prog) w base 41 41 90 i0 _ 2 32 Try.underlying41 hi0 hz0 hz1 hz2 rfl (by omega) v n (tgs l) hown B A m c (tgs news) (by rw [tgs_length, hl]) hr (tgs_one news) (by simp only [maxLen]; omega) (by omega) hbase
  rw [← tgs_append] at h2
  exact ⟨A', c', w', hrun, (App.refl hown).step h2 h3 h4⟩

theorem spC_one (s : Sp) (A : Option Addr) (n c : Nat) : (spC s A n c).all (·.oneCell') = true := by simp [Value.oneCell']
theorem zspC_one : zspC.all (·.oneCell') = true := by simp [Value.oneCell']
theorem Bk.row {w : World} {g : Nat} {t : TypeId} {old : Array Value} (h : Bk w g t old) (cs : Array Value) : Bk (w.setRow g cs) g t cs := setRow_heap w g old cs t (0, 0) h
theorem only_row {w : World} (g : Nat) (cs : Array Value) : w.grownBy (w.setRow g cs) (some g) :=
  ⟨rfl, rfl, rfl, by simp [World.setRow], fun i hi hne => by simp [World.setRow, Array.getElem?_modify]; intro e; subst e; exact absurd rfl hne⟩
end Go.Proofs.Ythaiplhjekkooaa

/- Lists of spans: how they lie in memory; bootprintkit.SmallSpans, SameSpans. -/
namespace Go.Proofs.Ythaiplhjekkooaa
open Go.RowKit

/-- A span as it lies: itself, and its tags' slice. -/
structure El where
  s : Sp
  A : Option Addr
  n : Nat
  c : Nat
def elC (e : El) : List Value := (spC e.s e.A e.n e.c).toList
theorem elC_length (e : El) : (elC e).length = 11 := rfl
def els (l : List El) : List Value := l.flatMap elC
theorem els_length (l : List El) : (els l).length = l.length * 11 := by
  induction l with
  | nil => rfl
  | cons e l ih =>
    have : els (e :: l) = elC e ++ els l := rfl
    rw [this, List.length_append, ih, elC_length, List.length_cons]
    omega
theorem els_append (a b : List El) : els (a ++ b) = els a ++ els b := by simp [els]
theorem els_get : ∀ {l : List El} {i : Nat} {e : El}, l[i]? = some e → ∀ j, j < 11 → (els l)[i * 11 + j]? = (elC e)[j]? := by
  intro l
  induction l with
  | nil => intro i e h; simp at h
  | cons u l ih =>
    intro i e h j hj
    have q : els (u :: l) = elC u ++ els l := rfl
    rw [q]
    cases i with
    | zero =>
      simp at h
      subst h
      rw [List.getElem?_append_left (by rw [elC_length]; omega), Nat.zero_mul, Nat.zero_add]
    | succ i =>
      have := ih (i := i) (e := e) (by simpa using h) j hj
      rw [List.getElem?_append_right (by rw [elC_length]; omega), elC_length, show (i + 1) * 11 + j - 11 = i * 11 + j from by omega]
      exact this
theorem els_one (l : List El) : ∀ u ∈ els l, u.oneCell' = true := by
  intro u hu
  obtain ⟨e, _, he⟩ := List.mem_flatMap.1 hu
  have := spC_one e.s e.A e.n e.c
  rw [Array.all_eq_true'] at this
  exact this u (by simpa [elC] using he)
theorem els_take (l : List El) (k : Nat) : (els l).take (k * 11) = els (l.take k) := by
  induction l generalizing k with
  | nil => simp [els]
  | cons e l ih =>
    cases k with
    | zero => simp [els]
    | succ k =>
      have q : els (e :: l) = elC e ++ els l := rfl
      have q2 : els ((e :: l).take (k + 1)) = elC e ++ els (l.take k) := rfl
      rw [q, q2, ← ih k, List.take_append, elC_length, List.take_of_length_le (by rw [elC_length]; omega), show (k + 1) * 11 - 11 = k * 11 from by omega]
theorem els_drop (l : List El) (k : Nat) : (els l).drop (k * 11) = els (l.drop k) := by
  induction l generalizing k with
  | nil => simp [els]
  | cons e l ih =>
    cases k with
    | zero => simp [els]
    | succ k =>
      have q : els (e :: l) = elC e ++ els l := rfl
      have q2 : els ((e :: l).drop (k + 1)) = els (l.drop k) := rfl
      rw [q, q2, ← ih k, List.drop_append, elC_length, List.drop_eq_nil_of_le (by rw [elC_length]; omega), show (k + 1) * 11 - 11 = k * 11 from by omega, List.nil_append]
/-- A span's tags lie where it says. -/
structure ElOk (w : World) (B : Nat) (e : El) : Prop where
  rd : RbT w B e.A e.s.tags
  len : e.s.tags.length = e.n
  max : e.n ≤ 9223372036854775807
theorem ElOk.below {w w' : World} {B : Nat} {e : El} (h : ElOk w B e) (hb : Below B w w') : ElOk w' B e := ⟨Rd.below h.rd hb, h.len, h.max⟩
theorem ElOk.more {w : World} {B B' : Nat} {e : El} (h : ElOk w B e) (hb : B ≤ B') : ElOk w B' e := ⟨Rd.more h.rd hb, h.len, h.max⟩
/-- Spans that lie from A on, and their tags. -/
structure RbS (w : World) (B : Nat) (A : Option Addr) (l : List El) : Prop where
  rd : Rd w B A (els l)
  ok : ∀ e ∈ l, ElOk w B e
section
variable {w w' : World} {B B' : Nat} {A : Option Addr} {l : List El}
theorem RbS.nil : RbS w B A [] := ⟨Rd.nil, fun _ h => by cases h⟩
theorem RbS.below (h : RbS w B A l) (hb : Below B w w') : RbS w' B A l := ⟨Rd.below h.rd hb, fun e he => (h.ok e he).below hb⟩
theorem RbS.more (h : RbS w B A l) (hB : B ≤ B') : RbS w B' A l := ⟨Rd.more h.rd hB, fun e he => (h.ok e he).more hB⟩
theorem RbS.bS (h : RbS w w.heap.size A l) (hb : Below w.heap.size w w') : RbS w' w'.heap.size A l := (h.below hb).more hb.size
theorem RbS.drewN (h : RbS w B A l) (k : Nat) : RbS (w.drewN k) B A l := ⟨Rd.drewN h.rd k, fun e he => ⟨Rd.drewN (h.ok e he).rd k, (h.ok e he).len, (h.ok e he).max⟩⟩
theorem RbS.get (h : RbS w B A l) {i : Nat} {e : El} (hi : l[i]? = some e) :
    ∃ b o, A = some ⟨b, o, none⟩ ∧ b < B ∧ (∀ j, j < 11 → w.cell? ⟨b, o + i * 11 + j, none⟩ = (elC e)[j]?) ∧ ElOk w B e := by
  have hl := (List.getElem?_eq_some_iff.1 hi).1
  obtain ⟨b, o, hA, hb, hc⟩ := h.rd (by intro e0; have := els_length l; rw [e0, List.length_nil] at this; omega)
  refine ⟨b, o, hA, hb, fun j hj => ?_, h.ok e (List.mem_of_getElem? hi)⟩
  have h1 := els_get hi j hj
  have h2 : j < (elC e).length := by rw [elC_length]; exact hj
  rw [List.getElem?_eq_getElem h2] at h1 ⊢
  rw [Nat.add_assoc]
  exact hc _ _ h1
end
/-- The load of a whole span out of a row, shut. -/
theorem run_loadVar_cells {P : Program} (w : World) (ty : TypeId) (d : TypeDesc) (a : Addr) (xs : List Value) (hu : P.underlying ty = some d) (hd : (match d with | .struct _ | .array _ _ => true | _ => false) = true) (hi : (P.info? ty).map (·.size) = some xs.length)
    (hc : ∀ j v, xs[j]? = some v → w.cell? (a.add j) = some v) : (loadVar ty a).run P w = .ok (.agg xs.toArray) w := by
  have hl := run_loadCells_list (P := P) w a xs hc
  cases hq : P.info? ty with
  | none => simp [hq] at hi
  | some i =>
    have hs : i.size = xs.length := by simpa [hq] using hi
    have hagg : (isAgg ty).run P w = .ok true w := by
      unfold isAgg
      rw [Sem.run_bind, run_underlying hu w]
      cases d <;> simp_all
    simp [loadVar, Sem.run_bind, hagg, sizeOf, typeInfo, hq, hs, hl]
set_option maxRecDepth 100000 in
theorem loadK_el {w : World} {b o : Nat} {e : El} (h : ∀ j, j < 11 → w.cell? ⟨b, o + j, none⟩ = (elC e)[j]?) : (loadK 43 ⟨b, o, none⟩).run Try.prog w = .ok (spV e.s e.A e.n e.c) w :=
  run_loadVar_cells w _ _ ⟨b, o, none⟩ (elC e) Try.underlying43 rfl (by rfl) (fun j v hv => by
    have hj : j < 11 := by have := (List.getElem?_eq_some_iff.1 hv).1; rwa [elC_length] at this
    rw [Addr.add_lit, h j hj, hv])
set_option maxRecDepth 100000 in
theorem loadK_sp {w : World} {g n c : Nat} {s : Sp} {A : Option Addr} (h : Bk w g 43 (spC s A n c)) : (loadK 43 ⟨g, 0, none⟩).run Try.prog w = .ok (spV s A n c) w :=
  run_loadVar_row w g _ _ (spC s A n c) (0, 0) _ h Try.underlying43 rfl (by rfl)
end Go.Proofs.Ythaiplhjekkooaa

/- What a copy of a span is. -/
namespace Go.Proofs.Ythaiplhjekkooaa
open Go.RowKit

/-- Copy hands back the same span, its tags in memory of its own. -/
def CopyPost (w : World) (s : Sp) (n : Nat) (A : Option Addr) (e : Ending) (w' : World) : Prop :=
  ∃ A' c', e = .returned (.agg (spC s A' n c')) ∧ RbT w' w'.heap.size A' s.tags ∧ Below w.heap.size w w' ∧ n ≤ c' ∧ (∀ a, A' = some a → w.heap.size ≤ a.block) ∧ (A' = none → A = none ∧ n = 0 ∧ c' = 0)

@[go_sem] theorem nil_eq_tags (W : World) (a : Option Addr) (n c n' c' : Nat) : (binOp .eql 41 (.slice a n c) (.slice none n' c')).run Try.prog W = .ok (.bool a.isNone) W :=
  Lib.run_eql_slice_nil W _ _ a n c n' c' Try.underlying41
theorem wpList_appTg (w : World) {ops : Array Oper} {rest : List Oper} {o : Oper} {a : Act} {Q : Exit → Act → World → Prop} (hgd : o.guard = none) (s x : Operand)
    (ho : o.op = .call { callee := .builtin .append, args := #[s, x], argTypes := #[41, 41] })
    (base : Nat) (v : Value) (n : Nat) (l : List Tg) (hs : a.eval s = v) (hown : w.ownsRow base 90 2 v n (tgs l))
    (B : Nat) (A : Option Addr) (m c : Nat) (news : List Tg) (hx : a.eval x = .slice A m c) (hl : news.length = m) (hr : RbT w B A news)
    (hbytes : n + m ≤ 4398046511104) (hbase : base ≤ w.heap.size)
    (h : ∀ A' c' w', App base 90 2 w v w' (.slice A' (n + m) c') (n + m) (tgs (l ++ news)) → (A' = none → v = .slice none 0 0 ∧ m = 0) → wpList Try.prog ops Q rest (a.put o.dst (.slice A' (n + m) c')) w') :
    wpList Try.prog ops Q (o :: rest) a w :=
  wpList_plain hgd fun _ hK => wp_appT w s x ho base v n l hs hown B A m c news hx hl hr hbytes hbase fun A' c' w' h1 h2 => hK _ _ (h A' c' w' h1 h2)

theorem tags_nil {w : World} {B : Nat} {l : List Tg} (h : RbT w B none l) : l = [] := by
  cases l with
  | nil => rfl
  | cons x l =>
    obtain ⟨b, o, e, _⟩ := h (by intro e; have := tgs_length (x :: l); rw [e] at this; simp at this)
    cases e
theorem grown_setCell (W : World) (b o : Nat) (v : Value) : W.grownBy (W.setCell ⟨b, o, none⟩ v) (some b) :=
  ⟨rfl, rfl, rfl, by simp, fun i _ hne => Below.heap_setCell W ⟨b, o, none⟩ v i (fun e => hne (by rw [e]))⟩

end Go.Proofs.Ythaiplhjekkooaa

/- Rows of spans of the call's own; a span laid into one. -/
namespace Go.Proofs.Ythaiplhjekkooaa
open Go.RowKit
attribute [local go_sem ↓] loadK_shut
attribute [local go_sem ↓] appK_shut

def sps (l : List El) : List Sp := l.map (·.s)
theorem sps_length (l : List El) : (sps l).length = l.length := by simp [sps]
theorem sps_get {l : List El} {i : Nat} {e : El} (h : l[i]? = some e) : (sps l)[i]? = some e.s := by simp [sps, h]
/-- A row of spans that is the walk's own; their tags lie elsewhere. -/
structure RowS (w : World) (base : Nat) (v : Value) (n : Nat) (l : List El) : Prop where
  own : w.ownsRow base 43 11 v n (els l)
  len : l.length = n
  ok : ∀ e ∈ l, ElOk w w.heap.size e
  far : ∀ e ∈ l, e.s.tags ≠ [] → ∀ a, e.A = some a → v.ownBlock ≠ some a.block

theorem spinfo : (Try.prog.info? 43).map (fun i => (i.zero, i.size, i.bytes)) = some (some (.agg zspC), 11, 120) := by kernel_rfl
/-- append of spans. -/
theorem wpList_appS (w : World) {ops : Array Oper} {rest : List Oper} {o : Oper} {a : Act} {Q : Exit → Act → World → Prop} (hgd : o.guard = none) (s x : Operand)
    (ho : o.op = .call { callee := .builtin .append, args := #[s, x], argTypes := #[34, 34] })
    (base : Nat) (v : Value) (n : Nat) (l : List El) (hs : a.eval s = v) (hown : w.ownsRow base 43 11 v n (els l))
    (B : Nat) (A : Option Addr) (m c : Nat) (news : List El) (hx : a.eval x = .slice A m c) (hl : news.length = m) (hr : Rd w B A (els news))
    (hbytes : n + m ≤ 1048576) (hbase : base ≤ w.heap.size)
    (h : ∀ A' c' w', App base 43 11 w v w' (.slice A' (n + m) c') (n + m) (els (l ++ news)) → (A' = none → v = .slice none 0 0 ∧ m = 0) → wpList Try.prog ops Q rest (a.put o.dst (.slice A' (n + m) c')) w') :
    wpList Try.prog ops Q (o :: rest) a w := by
  obtain ⟨i0, hi0, hz0, hz1, hz2⟩ := info_parts spinfo
  refine wpList_app w hgd s x _ ho base 43 i0 _ 11 120 Try.underlying34 hi0 hz0 hz1 hz2 rfl (by omega) v n (els l) hs hown B A m c (els news) hx (by rw [els_length]; omega) hr (els_one news) (by simp only [maxLen]; omega) (by omega) hbase ?_
  intro A' c' w' h1 h2 h3 h4
  rw [← els_append] at h1
  exact h A' c' w' ((App.refl hown).step h1 h2 h3) h4

theorem RowS.app {w w' : World} {base j : Nat} {v v' : Value} {l es : List El} (h : RowS w base v j l) (hap : App base 43 11 w v w' v' (j + es.length) (els (l ++ es)))
    (hes : ∀ e ∈ es, ElOk w w.heap.size e) (hfe : ∀ e ∈ es, e.s.tags ≠ [] → ∀ a, e.A = some a → v.ownBlock ≠ some a.block) : RowS w' base v' (j + es.length) (l ++ es) := by
  have hall : ∀ e ∈ l ++ es, ElOk w w.heap.size e ∧ (e.s.tags ≠ [] → ∀ a, e.A = some a → v.ownBlock ≠ some a.block) := fun e he => by
    rcases List.mem_append.1 he with he | he
    · exact ⟨h.ok e he, h.far e he⟩
    · exact ⟨hes e he, hfe e he⟩
  refine ⟨hap.own, by simp [h.len], fun e he => ?_, fun e he ht a ha => ?_⟩
  · obtain ⟨h1, h2⟩ := hall e he
    refine ⟨?_, h1.len, h1.max⟩
    by_cases ht : e.s.tags = []
    · rw [ht]
      exact Rd.nil
    · exact h1.rd.grownS hap.grown fun a ha => h2 ht a ha
  · obtain ⟨h1, h2⟩ := hall e he
    rcases hap.block with hb | ⟨k, hb, hk⟩
    · rw [hb]
      exact h2 ht a ha
    · rw [hb]
      intro e1
      have e2 := Option.some.inj e1
      obtain ⟨b, o, hA, hlt, _⟩ := h1.rd (by intro e0; have := tgs_length e.s.tags; rw [e0] at this; exact ht (List.eq_nil_of_length_eq_zero (by simp at this; omega)))
      rw [ha] at hA
      have e3 := Option.some.inj hA
      subst e3
      simp only at e2
      omega
theorem RowS.bS {w w' : World} {base n : Nat} {v : Value} {l : List El} (h : RowS w base v n l) (hb : Below w.heap.size w w') : RowS w' base v n l :=
  ⟨((App.refl h.own).later hb).own, h.len, fun e he => ((h.ok e he).below hb).more hb.size, h.far⟩
theorem RowS.own_lt {w : World} {base n : Nat} {v : Value} {l : List El} (h : RowS w base v n l) : ∀ k, v.ownBlock = some k → k < w.heap.size ∧ base ≤ k := fun k hk => by
  rcases h.own.2 with ⟨h1, _⟩ | ⟨g, cap, cur, h1, hbase, hb, _⟩
  · rw [h1] at hk
    cases hk
  · rw [h1] at hk
    have e := Option.some.inj hk
    simp only at e
    subst e
    exact ⟨(Array.getElem?_eq_some_iff.1 hb).1, hbase⟩
theorem RowS.nil (w : World) (base : Nat) : RowS w base (.slice none 0 0) 0 [] := ⟨World.ownsRow_nil _ _ _ _, rfl, fun _ h => absurd h (by simp), fun _ h => absurd h (by simp)⟩
theorem RowS.rbs {w : World} {base n c : Nat} {A : Option Addr} {l : List El} (h : RowS w base (.slice A n c) n l) : RbS w w.heap.size A l := ⟨Rd.of_own h.own, h.ok⟩
theorem sps_append (a b : List El) : sps (a ++ b) = sps a ++ sps b := by simp [sps]
theorem els_single (e : El) : els [e] = elC e := by simp [els]
theorem rd_span {w : World} {g : Nat} (hg : w.heap.size = g) (e : El) : Rd (w.alloc (.cells (spC e.s e.A e.n e.c) 43)) (g + 1) (some ⟨g, 0, none⟩) (els [e]) := by
  rw [els_single]
  exact Rd.lit' hg

/-- A slice of spans of the call's own, in the order l tells. -/
def OutPost (w : World) (n : Nat) (ss : List Sp) (e : Ending) (w' : World) : Prop :=
  ∃ A' c' l', e = .returned (.slice A' n c') ∧ sps l' = ss ∧ RowS w' w.heap.size (.slice A' n c') n l' ∧ Below w.heap.size w w'
/-- Where a part of a row of spans begins. -/
def cutA (a : Option Addr) (m k s : Nat) : Option Addr := if m = k then a else a.map (·.add (k * s))
theorem sliced_s (a : Option Addr) (k h m s : Nat) : sliced a k h m s = .slice (cutA a m k s) (h - k) (m - k) := rfl
theorem sliced_s0 (a : Option Addr) (h m s : Nat) : sliced a 0 h m s = .slice a h m := by
  simp only [sliced, Nat.zero_mul, Nat.sub_zero]
  split
  · rfl
  · cases a <;> rfl
theorem own_take {w : World} {base n c k size : Nat} {e : TypeId} {A : Option Addr} {xs : List Value} (h : w.ownsRow base e size (.slice A n c) n xs) (hk : k ≤ n) : w.ownsRow base e size (.slice A k c) k (xs.take (k * size)) := by
  refine ⟨by rw [List.length_take, h.1]; exact Nat.min_eq_left (Nat.mul_le_mul_right size hk), ?_⟩
  rcases h.2 with ⟨h1, h2⟩ | ⟨g, cap, cur, h1, hb, hg, hn, hc, hs, ht⟩
  · injection h1 with e1 _ e3
    subst e1 e3 h2
    obtain rfl : k = 0 := by omega
    exact .inl ⟨rfl, rfl⟩
  · injection h1 with e1 _ e3
    subst e1 e3
    refine .inr ⟨g, c, cur, rfl, hb, hg, by omega, hc, hs, ?_⟩
    rw [← ht, List.take_take, Nat.min_eq_left (Nat.mul_le_mul_right size hk)]
theorem RowS.take {w : World} {base n c k : Nat} {A : Option Addr} {l : List El} (h : RowS w base (.slice A n c) n l) (hk : k ≤ n) : RowS w base (.slice A k c) k (l.take k) := by
  have h1 := own_take h.own hk
  rw [els_take] at h1
  exact ⟨h1, by rw [List.length_take, h.len]; omega, fun e he => h.ok e (List.mem_of_mem_take he), fun e he ht a ha => by
    have := h.far e (List.mem_of_mem_take he) ht a ha
    cases A with
    | none => intro e1; cases e1
    | some q => exact this⟩
theorem Rd.dropS {w : World} {B k cap : Nat} {A : Option Addr} {l : List El} (h : Rd w B A (els l)) (hc : l.length ≤ cap) : Rd w B (cutA A cap k 11) (els (l.drop k)) := by
  unfold cutA
  rw [← els_drop]
  have h1 := Rd.drop (k := k * 11) (cap := cap * 11) h (by rw [els_length]; omega)
  by_cases hk : cap = k
  · rw [if_pos hk]
    rwa [if_pos (by omega)] at h1
  · rw [if_neg hk]
    rwa [if_neg (by omega)] at h1
theorem RowS.drewN {w : World} {base n : Nat} {v : Value} {l : List El} (h : RowS w base v n l) (k : Nat) : RowS (w.drewN k) base v n l := h.bS (below_drewN (Below.refl _ _) k)
theorem RowS.cap {w : World} {base n c : Nat} {A : Option Addr} {l : List El} (h : RowS w base (.slice A n c) n l) : n ≤ c := by
  rcases h.own.2 with ⟨h1, h2⟩ | ⟨g, cap, cur, h1, _, _, hn, _⟩
  · omega
  · injection h1 with _ _ e3
    omega
theorem run_appS (w : World) (base : Nat) (v : Value) (n : Nat) (l : List El) (hown : w.ownsRow base 43 11 v n (els l))
    (B : Nat) (A : Option Addr) (m c : Nat) (news : List El) (hl : news.length = m) (hr : Rd w B A (els news)) (hbytes : n + m ≤ 1048576) (hbase : base ≤ w.heap.size) :
    ∃ A' c' w', (appK #[34, 34] 34 #[v, .slice A m c]).run Try.prog w = .ok (.slice A' (n + m) c') w' ∧ App base 43 11 w v w' (.slice A' (n + m) c') (n + m) (els (l ++ news)) := by
  obtain ⟨i0, hi0, hz0, hz1, hz2⟩ := info_parts spinfo
  obtain ⟨v', w', hrun, h2, h3, h4, ⟨A', c', rfl⟩, h6⟩ := run_app (P := Try.prog) w base 34 34 43 i0 _ 11 120 Try.underlying34 hi0 hz0 hz1 hz2 rfl (by omega) v n (els l) hown B A m c (els news) (by rw [els_length, hl]) hr (els_one news) (by simp only [maxLen]; omega) (by omega) hbase
  rw [← els_append] at h2
  exact ⟨A', c', w', hrun, (App.refl hown).step h2 h3 h4⟩
/-- A span beside a row. -/
def OkF (w : World) (v : Value) (e : El) : Prop := ElOk w w.heap.size e ∧ (e.s.tags ≠ [] → ∀ a, e.A = some a → v.ownBlock ≠ some a.block)
theorem OkF.app {w w' : World} {base n : Nat} {v v' : Value} {xs : List Value} {e : El} (h : OkF w v e) (hap : App base 43 11 w v w' v' n xs) : OkF w' v' e := by
  obtain ⟨h1, h2⟩ := h
  refine ⟨⟨?_, h1.len, h1.max⟩, fun ht a ha => ?_⟩
  · by_cases ht : e.s.tags = []
    · rw [ht]
      exact Rd.nil
    · exact h1.rd.grownS hap.grown fun a ha => h2 ht a ha
  · rcases hap.block with hb | ⟨k, hb, hk⟩
    · rw [hb]
      exact h2 ht a ha
    · rw [hb]
      intro e1
      have e2 := Option.some.inj e1
      obtain ⟨b, o, hA, hlt, _⟩ := h1.rd (by intro e0; have := tgs_length e.s.tags; rw [e0] at this; exact ht (List.eq_nil_of_length_eq_zero (by simp at this; omega)))
      rw [ha] at hA
      have e3 := Option.some.inj hA
      subst e3
      simp only at e2
      omega
/-- One span laid into a row at k, what lay behind it being put back. -/
theorem insRow {base lo j k c c3 : Nat} {A A3 : Option Addr} {l : List El} {e : El} (W3 W4 : World) (hrow : RowS W3 base (.slice A j c) j l) (hk : k ≤ j) (hj : j ≤ 100000)
    (hA3 : W3.ownsRow lo 43 11 (.slice A3 (j - k) c3) (j - k) (els (l.drop k))) (hne : ∀ a, A3 = some a → (Value.slice A j c).ownBlock ≠ some a.block) (hbase : base ≤ W3.heap.size)
    (hb4 : Below W3.heap.size W3 W4) (hek : ElOk W4 W4.heap.size e) (hef : ∀ a, e.A = some a → W3.heap.size ≤ a.block) :
    ∃ A5 c5 w5 A6 c6 w6, (appK #[34, 34] 34 #[.slice A k c, .slice (some ⟨W4.heap.size, 0, none⟩) 1 1]).run Try.prog (W4.alloc (.cells (spC e.s e.A e.n e.c) 43)) = .ok (.slice A5 (k + 1) c5) w5 ∧
      (appK #[34, 34] 34 #[.slice A5 (k + 1) c5, .slice A3 (j - k) c3]).run Try.prog w5 = .ok (.slice A6 (j + 1) c6) w6 ∧ RowS w6 base (.slice A6 (j + 1) c6) (j + 1) (l.take k ++ e :: l.drop k) ∧ Below base W3 w6 := by
  have hb5 : Below W3.heap.size W3 (W4.alloc (.cells (spC e.s e.A e.n e.c) 43)) := hb4.alloc hb4.size _
  have hrd : Rd (W4.alloc (.cells (spC e.s e.A e.n e.c) 43)) (W4.heap.size + 1) (some ⟨W4.heap.size, 0, none⟩) (els [e]) := rd_span rfl e
  have hek5 : ElOk (W4.alloc (.cells (spC e.s e.A e.n e.c) 43)) (W4.alloc (.cells (spC e.s e.A e.n e.c) 43)).heap.size e :=
    (hek.below ((Below.refl _ W4).alloc (Nat.le_refl _) _)).more (by simp)
  obtain ⟨W5, hW5⟩ : ∃ W5, W4.alloc (.cells (spC e.s e.A e.n e.c) 43) = W5 := ⟨_, rfl⟩
  rw [hW5] at hb5 hrd hek5 ⊢
  have hrow5 := hrow.bS hb5
  have hob : (Value.slice A k c).ownBlock = (Value.slice A j c).ownBlock := by cases A <;> rfl
  have hlt := hrow.own_lt
  have hF : ∀ x ∈ e :: l, OkF W5 (.slice A k c) x := fun x hx => by
    rcases List.mem_cons.1 hx with rfl | hx
    · refine ⟨hek5, fun _ a ha e1 => ?_⟩
      rw [hob] at e1
      have h1 := (hlt _ e1).1
      have h2 := hef a ha
      omega
    · refine ⟨hrow5.ok x hx, fun ht a ha => ?_⟩
      rw [hob]
      exact hrow5.far x hx ht a ha
  have hbW : base ≤ W5.heap.size := Nat.le_trans hbase hb5.size
  obtain ⟨A5, c5, w5, hrun5, hap5⟩ := run_appS W5 base (.slice A k c) k (l.take k) (hrow5.take hk).own _ _ 1 1 [e] rfl hrd (by omega) hbW
  have hgr5 := hap5.grown
  rw [hob] at hgr5
  have hA5 := Rd.grownS (Rd.of_own ((App.refl hA3).later hb5).own) hgr5 hne
  have hl2 : (l.drop k).length = j - k := by rw [List.length_drop, hrow.len]
  obtain ⟨A6, c6, w6, hrun6, hap6⟩ := run_appS w5 base (.slice A5 (k + 1) c5) (k + 1) (l.take k ++ [e]) hap5.own _ A3 (j - k) c3 (l.drop k) hl2 hA5 (by omega) (Nat.le_trans hbW hap5.heap)
  rw [show k + 1 + (j - k) = j + 1 from by omega, List.append_assoc, List.singleton_append] at hap6
  rw [show k + 1 + (j - k) = j + 1 from by omega] at hrun6
  have hF6 : ∀ x ∈ l.take k ++ e :: l.drop k, OkF w6 (.slice A6 (j + 1) c6) x := fun x hx => by
    refine OkF.app (OkF.app (hF x ?_) hap5) hap6
    rcases List.mem_append.1 hx with hx | hx
    · exact List.mem_cons_of_mem _ (List.mem_of_mem_take hx)
    · rcases List.mem_cons.1 hx with rfl | hx
      · exact List.mem_cons_self
      · exact List.mem_cons_of_mem _ (List.mem_of_mem_drop hx)
  refine ⟨A5, c5, w5, A6, c6, w6, hrun5, hrun6, ⟨hap6.own, ?_, fun x hx => (hF6 x hx).1, fun x hx => (hF6 x hx).2⟩, ?_⟩
  · rw [List.length_append, List.length_take, List.length_cons, hl2, hrow.len]
    omega
  · have h5 : Below base W5 w5 := hap5.below hbW (fun q hq => (hlt q (by rw [← hob]; exact hq)).2)
    have h6 : Below base w5 w6 := hap6.below (Nat.le_trans hbW hap5.heap) (fun q hq => by
      rcases hap5.block with hb | ⟨r, hb, hr⟩
      · rw [hb, hob] at hq
        exact (hlt q hq).2
      · rw [hb] at hq
        have := Option.some.inj hq
        omega)
    exact ((hb5.mono hbase).trans h5).trans h6
end Go.Proofs.Ythaiplhjekkooaa

/- Rows of edges of the call's own: append; an edge laid into one. (Turned out of SoR.) -/
namespace Go.Proofs.Ythaiplhjekkooaa
open Go.RowKit

theorem edinfo : (Try.prog.info? 47).map (fun i => (i.zero, i.size, i.bytes)) = some (some (.agg #[.int .u64 0, .string ⟨#[]⟩, .string ⟨#[]⟩, .int .u64 0]), 4, 48) := by kernel_rfl
theorem eds_append (a b : List Ed) : eds (a ++ b) = eds a ++ eds b := by simp [flatR]
theorem eds_one (l : List Ed) : ∀ u ∈ eds l, u.oneCell' = true := flatR_one edC_one l
/-- append of edges. -/
theorem wpList_appD (w : World) {ops : Array Oper} {rest : List Oper} {o : Oper} {a : Act} {Q : Exit → Act → World → Prop} (hgd : o.guard = none) (s x : Operand)
    (ho : o.op = .call { callee := .builtin .append, args := #[s, x], argTypes := #[25, 25] })
    (base : Nat) (v : Value) (n : Nat) (l : List Ed) (hs : a.eval s = v) (hown : w.ownsRow base 47 4 v n (eds l))
    (B : Nat) (A : Option Addr) (m c : Nat) (news : List Ed) (hx : a.eval x = .slice A m c) (hl : news.length = m) (hr : RbD w B A news)
    (hbytes : n + m ≤ 1048576) (hbase : base ≤ w.heap.size)
    (h : ∀ A' c' w', App base 47 4 w v w' (.slice A' (n + m) c') (n + m) (eds (l ++ news)) → (A' = none → v = .slice none 0 0 ∧ m = 0) → wpList Try.prog ops Q rest (a.put o.dst (.slice A' (n + m) c')) w') :
    wpList Try.prog ops Q (o :: rest) a w := by
  obtain ⟨i0, hi0, hz0, hz1, hz2⟩ := info_parts edinfo
  refine wpList_app w hgd s x _ ho base 47 i0 _ 4 48 Try.underlying25 hi0 hz0 hz1 hz2 rfl (by omega) v n (eds l) hs hown B A m c (eds news) hx (by rw [eds_length]; omega) hr (eds_one news) (by simp only [maxLen]; omega) (by omega) hbase ?_
  intro A' c' w' h1 h2 h3 h4
  rw [← eds_append] at h1
  exact h A' c' w' ((App.refl hown).step h1 h2 h3) h4
theorem run_appD (w : World) (base : Nat) (v : Value) (n : Nat) (l : List Ed) (hown : w.ownsRow base 47 4 v n (eds l))
    (B : Nat) (A : Option Addr) (m c : Nat) (news : List Ed) (hl : news.length = m) (hr : RbD w B A news) (hbytes : n + m ≤ 1048576) (hbase : base ≤ w.heap.size) :
    ∃ A' c' w', (appK #[25, 25] 25 #[v, .slice A m c]).run Try.prog w = .ok (.slice A' (n + m) c') w' ∧ App base 47 4 w v w' (.slice A' (n + m) c') (n + m) (eds (l ++ news)) := by
  obtain ⟨i0, hi0, hz0, hz1, hz2⟩ := info_parts edinfo
  obtain ⟨v', w', hrun, h2, h3, h4, ⟨A', c', rfl⟩, h6⟩ := run_app (P := Try.prog) w base 25 25 47 i0 _ 4 48 Try.underlying25 hi0 hz0 hz1 hz2 rfl (by omega) v n (eds l) hown B A m c (eds news) (by rw [eds_length, hl]) hr (eds_one news) (by simp only [maxLen]; omega) (by omega) hbase
  rw [← eds_append] at h2
  exact ⟨A', c', w', hrun, (App.refl hown).step h2 h3 h4⟩
theorem eds_take (l : List Ed) (k : Nat) : (eds l).take (k * 4) = eds (l.take k) := flatR_take edC_length l k
theorem RbD.take {w : World} {B : Nat} {A : Option Addr} {l : List Ed} (h : RbD w B A l) (k : Nat) : RbD w B A (l.take k) := by
  have := Rd.take h (k * 4)
  rwa [eds_take] at this
theorem RbD.drop {w : World} {B k cap : Nat} {A : Option Addr} {l : List Ed} (h : RbD w B A l) (hc : l.length ≤ cap) : RbD w B (cutA A cap k 4) (l.drop k) := by
  unfold cutA
  show Rd _ _ _ (eds (l.drop k))
  rw [show eds (l.drop k) = (eds l).drop (k * 4) from (flatR_drop edC_length l k).symm]
  have h1 := Rd.drop (k := k * 4) (cap := cap * 4) h (by rw [eds_length]; omega)
  by_cases hk : cap = k
  · rw [if_pos hk]
    rwa [if_pos (by omega)] at h1
  · rw [if_neg hk]
    rwa [if_neg (by omega)] at h1
theorem own_ltD {w : World} {base n size : Nat} {e : TypeId} {v : Value} {xs : List Value} (h : w.ownsRow base e size v n xs) : ∀ k, v.ownBlock = some k → k < w.heap.size ∧ base ≤ k := fun k hk => by
  rcases h.2 with ⟨h1, _⟩ | ⟨g, cap, cur, h1, hbase, hb, _⟩
  · rw [h1] at hk
    cases hk
  · rw [h1] at hk
    have e := Option.some.inj hk
    simp only at e
    subst e
    exact ⟨(Array.getElem?_eq_some_iff.1 hb).1, hbase⟩
/-- One edge laid into a row at k, what lay behind it being put back. -/
theorem insRowD {base lo j k c c3 : Nat} {A A3 : Option Addr} {l : List Ed} {e : Ed} (W4 : World) (hown : W4.ownsRow base 47 4 (.slice A j c) j (eds l)) (hl : l.length = j) (hk : k ≤ j) (hj : j ≤ 100000)
    (hA3 : W4.ownsRow lo 47 4 (.slice A3 (j - k) c3) (j - k) (eds (l.drop k))) (hne : ∀ a, A3 = some a → (Value.slice A j c).ownBlock ≠ some a.block) (hbase : base ≤ W4.heap.size) :
    ∃ A5 c5 w5 A6 c6 w6, (appK #[25, 25] 25 #[.slice A k c, .slice (some ⟨W4.heap.size, 0, none⟩) 1 1]).run Try.prog (W4.alloc (.cells (edA e) 47)) = .ok (.slice A5 (k + 1) c5) w5 ∧
      (appK #[25, 25] 25 #[.slice A5 (k + 1) c5, .slice A3 (j - k) c3]).run Try.prog w5 = .ok (.slice A6 (j + 1) c6) w6 ∧ w6.ownsRow base 47 4 (.slice A6 (j + 1) c6) (j + 1) (eds (l.take k ++ e :: l.drop k)) ∧ Below base W4 w6 ∧
      ∀ q, q < W4.heap.size → (Value.slice A j c).ownBlock ≠ some q → w5.heap[q]? = W4.heap[q]? ∧ w6.heap[q]? = W4.heap[q]? := by
  have hb5 : Below W4.heap.size W4 (W4.alloc (.cells (edA e) 47)) := (Below.refl _ W4).alloc (Nat.le_refl _) _
  have hrd : RbD (W4.alloc (.cells (edA e) 47)) (W4.heap.size + 1) (some ⟨W4.heap.size, 0, none⟩) [e] := by
    have e1 : eds [e] = (edA e).toList := by simp [flatR, edC]
    show Rd _ _ _ (eds [e])
    rw [e1]
    exact Rd.lit W4 (edA e) 47
  have hsz : (W4.alloc (.cells (edA e) 47)).heap.size = W4.heap.size + 1 := by simp
  obtain ⟨W5, hW5⟩ : ∃ W5, W4.alloc (.cells (edA e) 47) = W5 := ⟨_, rfl⟩
  rw [hW5] at hb5 hrd hsz ⊢
  have hown5 := ((App.refl hown).later hb5).own
  have hob : (Value.slice A k c).ownBlock = (Value.slice A j c).ownBlock := by cases A <;> rfl
  have hlt := own_ltD hown5
  have hbW : base ≤ W5.heap.size := Nat.le_trans hbase hb5.size
  have htk := own_take hown5 hk
  rw [eds_take] at htk
  obtain ⟨A5, c5, w5, hrun5, hap5⟩ := run_appD W5 base (.slice A k c) k (l.take k) htk _ _ 1 1 [e] rfl hrd (by omega) hbW
  have hgr5 := hap5.grown
  rw [hob] at hgr5
  have hA5 := Rd.grownS (Rd.of_own ((App.refl hA3).later hb5).own) hgr5 hne
  have hl2 : (l.drop k).length = j - k := by rw [List.length_drop, hl]
  obtain ⟨A6, c6, w6, hrun6, hap6⟩ := run_appD w5 base (.slice A5 (k + 1) c5) (k + 1) (l.take k ++ [e]) hap5.own _ A3 (j - k) c3 (l.drop k) hl2 hA5 (by omega) (Nat.le_trans hbW hap5.heap)
  rw [show k + 1 + (j - k) = j + 1 from by omega, List.append_assoc, List.singleton_append] at hap6
  rw [show k + 1 + (j - k) = j + 1 from by omega] at hrun6
  have hkp : ∀ q, q < W4.heap.size → (Value.slice A j c).ownBlock ≠ some q → w5.heap[q]? = W4.heap[q]? ∧ w6.heap[q]? = W4.heap[q]? := fun q hq hqn => by
    have e1 := hb5.block q hq
    have e2 := hgr5.block q (by omega) (Ne.symm hqn)
    have e3 := hap6.grown.block q (by have := hap5.heap; omega) (fun e => by
      rcases hap5.block with hb | ⟨r, hb, hr⟩
      · rw [hb, hob] at e
        exact hqn e.symm
      · rw [hb] at e
        have := Option.some.inj e
        omega)
    exact ⟨e2.trans e1, e3.trans (e2.trans e1)⟩
  refine ⟨A5, c5, w5, A6, c6, w6, hrun5, hrun6, hap6.own, ?_, hkp⟩
  have h5 : Below base W5 w5 := hap5.below hbW (fun q hq => (hlt q (by rw [← hob]; exact hq)).2)
  have h6 : Below base w5 w6 := hap6.below (Nat.le_trans hbW hap5.heap) (fun q hq => by
    rcases hap5.block with hb | ⟨r, hb, hr⟩
    · rw [hb, hob] at hq
      exact (hlt q hq).2
    · rw [hb] at hq
      have := Option.some.inj hq
      omega)
  exact ((hb5.mono hbase).trans h5).trans h6
/-- Where an edge is put. -/
def addPos (x : Ed) : List Ed → Nat
  | [] => 0
  | a :: l => if edLt a x = true then addPos x l + 1 else 0
/-- The document's add. -/
def addE (x : Ed) (l : List Ed) : List Ed × Bool :=
  match l[addPos x l]? with
  | some y => if edLt x y = true then (l.take (addPos x l) ++ x :: l.drop (addPos x l), decide (x.n ≤ 4611686018427387904))
    else if 4611686018427387904 < x.n ∨ 4611686018427387904 - x.n < y.n then (l, false) else (l.set (addPos x l) ⟨y.b, y.f, y.t, y.n + x.n⟩, true)
  | none => (l.take (addPos x l) ++ x :: l.drop (addPos x l), decide (x.n ≤ 4611686018427387904))
theorem addPos_at {x : Ed} : ∀ {l : List Ed} {k : Nat}, k ≤ l.length → (∀ a ∈ l.take k, edLt a x = true) → (∀ a, l[k]? = some a → edLt a x = false) → addPos x l = k
  | [], k, h, _, _ => by simp at h; rw [h]; rfl
  | a :: l, 0, _, _, h2 => by rw [addPos, if_neg (by rw [h2 a rfl]; simp)]
  | a :: l, k + 1, h, h1, h2 => by
    rw [addPos, if_pos (h1 a (by simp)), addPos_at (l := l) (k := k) (by simpa using h) (fun b hb => h1 b (by simp [hb])) (fun b hb => h2 b (by simpa using hb))]
/-- What add hands back: the row, and whether it could. -/
def AddPost (base : Nat) (w : World) (r : List Ed × Bool) (e : Ending) (w' : World) : Prop :=
  ∃ A' c' n', e = .returned (.tuple #[.slice A' n' c', .bool r.2]) ∧ r.1.length = n' ∧ w'.ownsRow base 47 4 (.slice A' n' c') n' (eds r.1) ∧ Below base w w'
end Go.Proofs.Ythaiplhjekkooaa

/- Edges: the document's add. -/
namespace Go.Proofs.Ythaiplhjekkooaa
open Go.RowKit
theorem loadEd_shutD (a : Addr) : loadVar 47 a = loadK 47 a := rfl
attribute [local go_sem ↓] loadEd_shutD
attribute [local go_sem ↓] appK_shut
attribute [local go_sem ↓] sliced_s
attribute [local go_sem ↓ high] sliced_s0

theorem flatR_setD {α : Type} {f : α → List Value} {k : Nat} (hf : ∀ x, (f x).length = k) {x x' : α} {j : Nat} {u : Value} (hj : j < k) (hx : f x' = (f x).set j u) :
    ∀ {l : List α} {i : Nat}, l[i]? = some x → (flatR f l).set (i * k + j) u = flatR f (l.set i x')
  | [], i, h => by simp at h
  | a :: l, 0, h => by
    simp at h
    subst h
    have e : flatR f (a :: l) = f a ++ flatR f l := rfl
    have e2 : flatR f ((a :: l).set 0 x') = f x' ++ flatR f l := rfl
    rw [e, e2, hx, Nat.zero_mul, Nat.zero_add, List.set_append_left _ _ (by rw [hf]; exact hj)]
  | a :: l, i + 1, h => by
    have ih := flatR_setD hf hj hx (l := l) (i := i) (by simpa using h)
    have e : flatR f (a :: l) = f a ++ flatR f l := rfl
    have e2 : flatR f ((a :: l).set (i + 1) x') = f a ++ flatR f (l.set i x') := rfl
    have hk : (i + 1) * k = i * k + k := Nat.succ_mul _ _
    rw [e, e2, ← ih, List.set_append_right _ _ (by rw [hf]; omega), hf, show (i + 1) * k + j - k = i * k + j from by omega]
set_option maxRecDepth 100000 in
set_option maxHeartbeats 4000000 in
theorem rDeAdd {base n c : Nat} {A : Option Addr} (l : List Ed) (x : Ed) (w : World) (hown : w.ownsRow base 47 4 (.slice A n c) n (eds l)) (hl : l.length = n) (hnl : n ≤ 100000) (hbase : base ≤ w.heap.size) (hx : x.n < 18446744073709551616) (hy : ∀ y ∈ l, y.n < 18446744073709551616) :
    Calls Try.prog 38 #[.slice A n c, edV x] w (AddPost base w (addE x l)) := by
  have hal : Below w.heap.size w (w.alloc (.cells (edA x) 47)) := (Below.refl _ w).alloc (Nat.le_refl _) _
  have bk := Bk.new w 47 (edA x)
  obtain ⟨w1, hw1⟩ : ∃ w1, w.alloc (.cells (edA x) 47) = w1 := ⟨_, rfl⟩
  obtain ⟨g, hg⟩ : ∃ g, w.heap.size = g := ⟨_, rfl⟩
  rw [hw1] at hal bk
  rw [hg] at bk
  have hgo : (Value.slice A n c).ownBlock ≠ some g := fun e => by have := (own_ltD hown g e).1; omega
  have own1 := ((App.refl hown).later hal).own
  have hcap : n ≤ c := by
    rcases hown.2 with ⟨h1, h2⟩ | ⟨q, cap, cur, h1, _, _, h3, _⟩
    · omega
    · injection h1 with _ _ h5
      omega
  obtain ⟨R, hR⟩ : ∃ R, addE x l = R := ⟨_, rfl⟩
  rw [hR]
  have HW := Lib.hid hw1
  have HG := Lib.hid hg
  have HR := Lib.hid hR
  have HN := Lib.hid hl
  have HAL := Lib.hid hal
  have HY := Lib.hid hy
  have hbg : base ≤ g := by omega
  clear hw1 hg hR hl hal hown hy
  go_enter Try.func38, Try.ntmps38
  go_upto_region 1 with fail
  rw [HW.out, HG.out]
  go_wp2_with fail
  go_loopw [6] (fun i_ wr => ∃ k : Nat, k ≤ n ∧ i_ = .int .i64 k ∧ Hid (∀ a ∈ l.take k, edLt a x = true) ∧ Below w1.heap.size w1 wr) (fun i_ _ => n - (intOf i_).toNat)
  case atStart => exact ⟨0, by omega, rfl, Lib.hid (fun a ha => by simp at ha), Below.refl _ _⟩
  case round =>
    obtain ⟨k, hk, rfl, HALL, hbr⟩ := hrel
    by_cases hlt : k < n
    · have hlt' : (k : Int) < (n : Int) := by omega
      obtain ⟨a, ha⟩ : ∃ a, l[k]? = some a := ⟨_, List.getElem?_eq_getElem (by rw [HN.out]; exact hlt)⟩
      have hbd := below_drewN hbr 1
      have ownd := ((App.refl own1).later hbd).own
      have hA : ∃ ga, A = some ⟨ga, 0, none⟩ := by
        rcases own1.2 with ⟨-, h0⟩ | ⟨q, cap, cur, h1, -⟩
        · omega
        · injection h1 with h2
          exact ⟨q, h2⟩
      obtain ⟨ga, rfl⟩ := hA
      have HL : Hid (∀ W, Below w1.heap.size w1 W → (loadK 47 ⟨ga, k * 4, none⟩).run Try.prog W = .ok (edV a) W ∧ (loadK 47 ⟨g, 0, none⟩).run Try.prog W = .ok (edV x) W) := Lib.hid fun W hW => by
        obtain ⟨b', o', e', -, hc'⟩ := RbD.at (Rd.of_own ((App.refl own1).later hW).own) ha
        cases e'
        have h1 := loadK_ed hc'
        rw [Nat.zero_add] at h1
        exact ⟨h1, loadK_edB (bk.below hW bk.lt)⟩
      obtain ⟨la, lx⟩ := HL.out _ hbd
      have hcb := rDeBefore a x wr.drew
      obtain ⟨r, hr⟩ : ∃ r, edLt a x = r := ⟨_, rfl⟩
      rw [hr] at hcb
      have HRR := Lib.hid hr
      have HC := Lib.hid hcb
      have HA := Lib.hid ha
      clear hr hcb ha ownd
      go_wp2_with fail
      go_region_held3 (fun w' => (loadK 47 ⟨ga, k * 4, none⟩).run Try.prog w' = .ok (edV a) w' ∧ (loadK 47 ⟨g, 0, none⟩).run Try.prog w' = .ok (edV x) w')
        (first | exact ⟨la, lx⟩ | exact ⟨la3, lx3⟩)
        (first
          | (go_at_call 48
             refine HC.out.mono ?_
             rintro en w3 ⟨rfl, hb3⟩
             have hb03 := hbd.trans (hb3.mono hbd.size)
             obtain ⟨la3, lx3⟩ := HL.out _ hb03)
          | fail)
      cases r with
      | true =>
        go_wp2_with fail
        exact ⟨⟨k + 1, by omega, by go_num, Lib.hid (fun b hb => by
          rw [take_snoc HA.out] at hb
          rcases List.mem_append.1 hb with hb | hb
          · exact HALL.out b hb
          · rw [List.mem_singleton.1 hb, HRR.out]), hb03⟩, by simp only [intOf]; omega⟩
      | false =>
        have hps : addPos x l = k := addPos_at (by rw [HN.out]; exact hk) HALL.out (fun b hb => by
          rw [HA.out] at hb
          cases hb
          exact HRR.out)
        have HPS := Lib.hid hps
        clear hps la lx la3 lx3 HC hbd hb3 hbr HALL HRR
        obtain ⟨wQ, hwQ⟩ : ∃ wQ, wQ = w3 := ⟨_, rfl⟩
        subst hwQ
        have hbd := below_drewN hb03 1
        obtain ⟨la, lx⟩ := HL.out _ hbd
        have hcb := rDeBefore x a wQ.drew
        obtain ⟨r2, hr2⟩ : ∃ r, edLt x a = r := ⟨_, rfl⟩
        rw [hr2] at hcb
        have HR2 := Lib.hid hr2
        have HC := Lib.hid hcb
        clear hr2 hcb
        go_wp2_with fail
        go_region_held3 (fun w' => (loadK 47 ⟨ga, k * 4, none⟩).run Try.prog w' = .ok (edV a) w' ∧ (loadK 47 ⟨g, 0, none⟩).run Try.prog w' = .ok (edV x) w')
          (first | exact ⟨la, lx⟩ | exact ⟨la3, lx3⟩)
          (first
            | (go_at_call 48
               refine HC.out.mono ?_
               rintro en w4 ⟨rfl, hb4⟩
               have hb04 := hbd.trans (hb4.mono hbd.size)
               obtain ⟨la3, lx3⟩ := HL.out _ hb04)
            | fail)
        clear la lx la3 lx3 HC hbd hb4 hb03
        cases r2 with
        | true =>
          have hRR : R = (l.take k ++ x :: l.drop k, decide (x.n ≤ 4611686018427387904)) := by
            rw [← HR.out, addE, HPS.out, HA.out]
            simp only [HR2.out, if_true]
          have HRR := Lib.hid hRR
          clear hRR HPS HA HR HR2 HL
          obtain ⟨WX, hWX⟩ : ∃ WX, WX = w4 := ⟨_, rfl⟩
          subst hWX
          have HBW := Lib.hid hb04
          clear hb04
          have hrbW := Rd.of_own ((App.refl own1).later HBW.out).own
          have hkc : (k : Int) ≤ (c : Int) := by omega
          have hkn : (k : Int) ≤ (n : Int) := by omega
          have hbs : base ≤ WX.heap.size := by have h1 := HAL.out.size; have h2 := HBW.out.size; omega
          go_wp2_with (at_builtin; go_loud (refine wpList_appD _ rfl (.tmp 63) (.tmp 66) rfl WX.heap.size _ 0 [] rfl (World.ownsRow_lit WX #[] 0 (Nat.le_refl _) (by simp [maxLen]) rfl) WX.heap.size _ (n - k) _ (l.drop k) rfl (by rw [List.length_drop, HN.out]) (Rd.alloc (RbD.drop (cap := c) hrbW (by rw [HN.out]; exact hcap)) (Nat.le_refl _) _) (by omega) (by simp) ?_))
          intro A3 c3 w3 hap _
          have hap1 := hap.fresh1
          have hb3 := hap1.below0
          have hlo := hap1.lo
          have hb13 := HBW.out.trans (hb3.mono HBW.out.size)
          have hb13d := below_drewN hb13 1
          have ownD := ((App.refl own1).later hb13d).own
          have bkD := bk.below hb13d bk.lt
          have hne3 : ∀ q, A3 = some q → (Value.slice (some ⟨ga, 0, none⟩) n c).ownBlock ≠ some q.block := fun q hq e1 => by
            have h1 := (own_ltD own1 _ e1).1
            have h2 := (hlo q hq).1
            have h3 := HBW.out.size
            omega
          obtain ⟨A5, c5, w5, A6, c6, w6, hrun5, hrun6, hown6, hb6, hkp⟩ := insRowD (e := x) (w3.drewN 1) ownD HN.out hk hnl hap1.drew.own hne3 (Nat.le_trans hbs hb3.size)
          have hkg := hkp g (by have := bkD.lt; exact this) hgo
          have F4 : (loadK 47 ⟨g, 0, none⟩).run Try.prog w3.drew = .ok (edV x) w3.drew ∧ w3.drew.cell? ⟨g, 3, none⟩ = some (.int .u64 x.n) := ⟨loadK_edB bkD, bkD.cell 3⟩
          have FA : Hid (∀ ob, (loadK 47 ⟨g, 0, none⟩).run Try.prog (w3.alloc ob).drew = .ok (edV x) (w3.alloc ob).drew ∧ (w3.alloc ob).drew.cell? ⟨g, 3, none⟩ = some (.int .u64 x.n)) := Lib.hid fun ob => by
            have hq : Bk (w3.alloc ob).drew g 47 (edA x) := bkD.alloc ob
            exact ⟨loadK_edB hq, hq.cell 3⟩
          have bk5 : Bk w5 g 47 (edA x) := hkg.1.trans bkD
          have bk6 : Bk w6 g 47 (edA x) := hkg.2.trans bkD
          have F5 : (loadK 47 ⟨g, 0, none⟩).run Try.prog w5 = .ok (edV x) w5 ∧ w5.cell? ⟨g, 3, none⟩ = some (.int .u64 x.n) := ⟨loadK_edB bk5, bk5.cell 3⟩
          have F6 : (loadK 47 ⟨g, 0, none⟩).run Try.prog w6 = .ok (edV x) w6 ∧ w6.cell? ⟨g, 3, none⟩ = some (.int .u64 x.n) := ⟨loadK_edB bk6, bk6.cell 3⟩
          have hrun5' : (appK #[25, 25] 25 #[.slice (some ⟨ga, 0, none⟩) k c, .slice (some ⟨w3.heap.size, 0, none⟩) 1 1]).run Try.prog (w3.alloc (.cells (edA x) 47)).drew = .ok (.slice A5 (k + 1) c5) w5 := hrun5
          have HO6 := Lib.hid hown6
          have HB6 := Lib.hid hb6
          have HB13 := Lib.hid hb13d
          clear hkp hkg hown6 hb6 bk5 bk6 hap hap1 hb3 hlo ownD bkD hne3 hrbW hrun5 hb13 hb13d
          go_wp2_with fail
          go_region_held3 (fun w' => (loadK 47 ⟨g, 0, none⟩).run Try.prog w' = .ok (edV x) w' ∧ w'.cell? ⟨g, 3, none⟩ = some (.int .u64 x.n))
            (first | exact F4 | exact FA.out _ | exact F5 | exact F6) (fail)
          all_goals go_wp2_with fail
          all_goals go_ret2
          all_goals
            rw [HRR.out]
            have hbb : Below base w w6 := (HAL.out.mono (by omega)).trans ((HB13.out.mono (by have := HAL.out.size; omega)).trans HB6.out)
            have hdn : decide ((x.n : Int) ≤ 4611686018427387904) = decide (x.n ≤ 4611686018427387904) := by
              by_cases h : x.n ≤ 4611686018427387904
              · rw [decide_eq_true h, decide_eq_true (show (x.n : Int) ≤ 4611686018427387904 by omega)]
              · rw [decide_eq_false h, decide_eq_false (show ¬ (x.n : Int) ≤ 4611686018427387904 by omega)]
            exact ⟨A6, c6, n + 1, (by rw [← hdn]; rfl), by simp only [List.length_append, List.length_cons, List.length_take, List.length_drop, HN.out]; omega, HO6.out, hbb⟩
        | false =>
          have hc3a : ∀ W, Below w1.heap.size w1 W → W.cell? ⟨ga, k * 4 + 3, none⟩ = some (.int .u64 a.n) ∧ W.cell? ⟨g, 3, none⟩ = some (.int .u64 x.n) ∧ W.frozen? ⟨ga, k * 4 + 3, none⟩ = false := fun W hW => by
            have ow := ((App.refl own1).later hW).own
            obtain ⟨b', o', e', -, hc'⟩ := RbD.at (Rd.of_own ow) HA.out
            cases e'
            have h1 := hc' 3 (by omega)
            rw [Nat.zero_add] at h1
            exact ⟨h1, (bk.below hW bk.lt).cell 3, ow.frozenAt _⟩
          have HC3 := Lib.hid hc3a
          have han := HY.out a (List.mem_of_getElem? HA.out)
          obtain ⟨na, hna⟩ : ∃ na, a.n = na := ⟨_, rfl⟩
          obtain ⟨nx, hnx⟩ : ∃ nx, x.n = nx := ⟨_, rfl⟩
          obtain ⟨ca, cx, fa⟩ := HC3.out w4 hb04
          rw [hna] at ca han
          rw [hnx] at cx hx
          have hRR : R = if 4611686018427387904 < nx ∨ 4611686018427387904 - nx < na then (l, false) else (l.set k ⟨a.b, a.f, a.t, na + nx⟩, true) := by
            rw [← HR.out, addE, HPS.out, HA.out]
            simp only [HR2.out, Bool.false_eq_true, if_false, hna, hnx]
          have HRR := Lib.hid hRR
          have HNA := Lib.hid hna
          have HNX := Lib.hid hnx
          clear hRR HPS HR HR2 HL hc3a hna hnx
          by_cases h1 : 4611686018427387904 < nx
          · have d1 : decide ((4611686018427387904 : Int) < (nx : Int)) = true := by simp; omega
            have d1' : (4611686018427387904 : Int) < (nx : Int) := by omega
            have hre := HRR.out
            rw [if_pos (.inl h1)] at hre
            subst hre
            go_wp2_with fail
            go_quiet (fail)
            go_wp2_with fail
            go_ret2
            have hbq := below_drewN hb04 nq
            exact ⟨some ⟨ga, 0, none⟩, c, n, rfl, HN.out, ((App.refl own1).later hbq).own, (HAL.out.mono (by omega)).trans (hbq.mono (by have := HAL.out.size; omega))⟩
          have d1 : decide ((4611686018427387904 : Int) < (nx : Int)) = false := by simp; omega
          have d1' : ¬ (4611686018427387904 : Int) < (nx : Int) := by omega
          obtain ⟨mx, hmx⟩ : ∃ mx, 4611686018427387904 - nx = mx := ⟨_, rfl⟩
          have hw1 : IntKind.u64.wrap (4611686018427387904 - (nx : Int)) = (mx : Int) := by
            rw [show (4611686018427387904 : Int) - (nx : Int) = (mx : Int) from by omega]
            exact IntWalk.u64_in _ ⟨by omega, by omega⟩
          rw [hmx] at HRR
          by_cases h2 : mx < na
          · have d2 : decide ((mx : Int) < (na : Int)) = true := by simp; omega
            have d2' : (mx : Int) < (na : Int) := by omega
            have hre := HRR.out
            rw [if_pos (.inr h2)] at hre
            subst hre
            go_wp2_with fail
            go_quiet (fail)
            go_wp2_with fail
            go_ret2
            have hbq := below_drewN hb04 nq
            exact ⟨some ⟨ga, 0, none⟩, c, n, rfl, HN.out, ((App.refl own1).later hbq).own, (HAL.out.mono (by omega)).trans (hbq.mono (by have := HAL.out.size; omega))⟩
          · have d2 : decide ((mx : Int) < (na : Int)) = false := by simp; omega
            have d2' : ¬ (mx : Int) < (na : Int) := by omega
            have hre := HRR.out
            rw [if_neg (by omega)] at hre
            subst hre
            have hw2 : IntKind.u64.wrap ((na : Int) + (nx : Int)) = (na : Int) + (nx : Int) := IntWalk.u64_in _ ⟨by omega, by omega⟩
            go_wp2_with fail
            go_quiet (fail)
            have hbq := below_drewN hb04 nq
            obtain ⟨WQ, hWQ⟩ : ∃ WQ, w4.drewN nq = WQ := ⟨_, rfl⟩
            rw [hWQ] at hbq ⊢
            clear ca cx fa hWQ hb04
            have hbq1 := below_drewN hbq 1
            have hq0 := HC3.out WQ hbq
            have hq1 := HC3.out (WQ.drewN 1) hbq1
            have HQ1 := Lib.hid hq1
            obtain ⟨ca, cx, fa⟩ := hq0
            rw [HNA.out] at ca
            rw [HNX.out] at cx
            go_wp2_with fail
            go_still_tail 12, (by kernel_rfl)
            change wpList _ _ _ _ _ WQ.drew
            clear ca cx fa
            have ca : WQ.drew.cell? ⟨ga, k * 4 + 3, none⟩ = some (.int .u64 a.n) := HQ1.out.1
            have fa : WQ.drew.frozen? ⟨ga, k * 4 + 3, none⟩ = false := HQ1.out.2.2
            go_wp2_with fail
            go_ret2
            have ow := ((App.refl own1).later hbq1).own
            obtain ⟨st1, st2⟩ := ow.stored (k * 4 + 3) (.int .u64 ((na + nx : Nat) : Int))
            have hset : (eds l).set (k * 4 + 3) (.int .u64 ((na + nx : Nat) : Int)) = eds (l.set k ⟨a.b, a.f, a.t, na + nx⟩) := flatR_setD edC_length (by omega) rfl HA.out
            rw [hset] at st1
            have hnn : ((na : Int) + (nx : Int)) = ((na + nx : Nat) : Int) := by omega
            have hgb : base ≤ ga := (own_ltD own1 ga rfl).2
            rw [hnn]
            exact ⟨some ⟨ga, 0, none⟩, c, n, rfl, by rw [List.length_set, HN.out], st1, (HAL.out.mono (by omega)).trans ((hbq1.mono (by have := HAL.out.size; omega)).setCell (p := ⟨ga, k * 4 + 3, none⟩) hgb _)⟩
    · have hkn0 : k = n := by omega
      have hlt' : decide ((k : Int) < (n : Int)) = false := by simp; omega
      have hps : addPos x l = k := addPos_at (by rw [HN.out]; exact hk) HALL.out (fun b hb => by
        rw [List.getElem?_eq_none (by rw [HN.out]; omega)] at hb
        cases hb)
      have hRR : R = (l.take k ++ x :: l.drop k, decide (x.n ≤ 4611686018427387904)) := by
        have hnone : l[k]? = none := List.getElem?_eq_none (by rw [HN.out]; omega)
        rw [← HR.out, addE, hps, hnone]
      have HRR := Lib.hid hRR
      clear hRR hps HR HALL
      go_wp2_with fail
      go_quiet (fail)
      have hb0 := below_drewN hbr nq
      obtain ⟨W0, hW0⟩ : ∃ W0, wr.drewN nq = W0 := ⟨_, rfl⟩
      rw [hW0] at hb0 ⊢
      clear hW0 hbr
      go_wp2_with fail
      go_quiet (fail)
      have hb00 := below_drewN hb0 nq
      obtain ⟨WX, hWX⟩ : ∃ WX, W0.drewN nq = WX := ⟨_, rfl⟩
      rw [hWX] at hb00 ⊢
      clear hWX hb0 hkn0 hlt hlt'
      have HBW := Lib.hid hb00
      clear hb00
      have hrbW := Rd.of_own ((App.refl own1).later HBW.out).own
      have hkc : (k : Int) ≤ (c : Int) := by omega
      have hkn : (k : Int) ≤ (n : Int) := by omega
      have hbs : base ≤ WX.heap.size := by have h1 := HAL.out.size; have h2 := HBW.out.size; omega
      go_wp2_with (at_builtin; go_loud (refine wpList_appD _ rfl (.tmp 63) (.tmp 66) rfl WX.heap.size _ 0 [] rfl (World.ownsRow_lit WX #[] 0 (Nat.le_refl _) (by simp [maxLen]) rfl) WX.heap.size _ (n - k) _ (l.drop k) rfl (by rw [List.length_drop, HN.out]) (Rd.alloc (RbD.drop (cap := c) hrbW (by rw [HN.out]; exact hcap)) (Nat.le_refl _) _) (by omega) (by simp) ?_))
      intro A3 c3 w3 hap _
      have hap1 := hap.fresh1
      have hb3 := hap1.below0
      have hlo := hap1.lo
      have hb13 := HBW.out.trans (hb3.mono HBW.out.size)
      have hb13d := below_drewN hb13 1
      have ownD := ((App.refl own1).later hb13d).own
      have bkD := bk.below hb13d bk.lt
      have hne3 : ∀ q, A3 = some q → (Value.slice A n c).ownBlock ≠ some q.block := fun q hq e1 => by
        have h1 := (own_ltD own1 _ e1).1
        have h2 := (hlo q hq).1
        have h3 := HBW.out.size
        omega
      obtain ⟨A5, c5, w5, A6, c6, w6, hrun5, hrun6, hown6, hb6, hkp⟩ := insRowD (e := x) (w3.drewN 1) ownD HN.out hk hnl hap1.drew.own hne3 (Nat.le_trans hbs hb3.size)
      have hkg := hkp g (by have := bkD.lt; exact this) hgo
      have F4 : (loadK 47 ⟨g, 0, none⟩).run Try.prog w3.drew = .ok (edV x) w3.drew ∧ w3.drew.cell? ⟨g, 3, none⟩ = some (.int .u64 x.n) := ⟨loadK_edB bkD, bkD.cell 3⟩
      have FA : Hid (∀ ob, (loadK 47 ⟨g, 0, none⟩).run Try.prog (w3.alloc ob).drew = .ok (edV x) (w3.alloc ob).drew ∧ (w3.alloc ob).drew.cell? ⟨g, 3, none⟩ = some (.int .u64 x.n)) := Lib.hid fun ob => by
        have hq : Bk (w3.alloc ob).drew g 47 (edA x) := bkD.alloc ob
        exact ⟨loadK_edB hq, hq.cell 3⟩
      have bk5 : Bk w5 g 47 (edA x) := hkg.1.trans bkD
      have bk6 : Bk w6 g 47 (edA x) := hkg.2.trans bkD
      have F5 : (loadK 47 ⟨g, 0, none⟩).run Try.prog w5 = .ok (edV x) w5 ∧ w5.cell? ⟨g, 3, none⟩ = some (.int .u64 x.n) := ⟨loadK_edB bk5, bk5.cell 3⟩
      have F6 : (loadK 47 ⟨g, 0, none⟩).run Try.prog w6 = .ok (edV x) w6 ∧ w6.cell? ⟨g, 3, none⟩ = some (.int .u64 x.n) := ⟨loadK_edB bk6, bk6.cell 3⟩
      have hrun5' : (appK #[25, 25] 25 #[.slice A k c, .slice (some ⟨w3.heap.size, 0, none⟩) 1 1]).run Try.prog (w3.alloc (.cells (edA x) 47)).drew = .ok (.slice A5 (k + 1) c5) w5 := hrun5
      have HO6 := Lib.hid hown6
      have HB6 := Lib.hid hb6
      have HB13 := Lib.hid hb13d
      clear hkp hkg hown6 hb6 bk5 bk6 hap hap1 hb3 hlo ownD bkD hne3 hrbW hrun5 hb13 hb13d
      go_wp2_with fail
      go_region_held3 (fun w' => (loadK 47 ⟨g, 0, none⟩).run Try.prog w' = .ok (edV x) w' ∧ w'.cell? ⟨g, 3, none⟩ = some (.int .u64 x.n))
        (first | exact F4 | exact FA.out _ | exact F5 | exact F6) (fail)
      all_goals go_wp2_with fail
      all_goals go_ret2
      all_goals
        rw [HRR.out]
        have hbb : Below base w w6 := (HAL.out.mono (by omega)).trans ((HB13.out.mono (by have := HAL.out.size; omega)).trans HB6.out)
        have hdn : decide ((x.n : Int) ≤ 4611686018427387904) = decide (x.n ≤ 4611686018427387904) := by
          by_cases h : x.n ≤ 4611686018427387904
          · rw [decide_eq_true h, decide_eq_true (show (x.n : Int) ≤ 4611686018427387904 by omega)]
          · rw [decide_eq_false h, decide_eq_false (show ¬ (x.n : Int) ≤ 4611686018427387904 by omega)]
        exact ⟨A6, c6, n + 1, (by rw [← hdn]; rfl), by simp only [List.length_append, List.length_cons, List.length_take, List.length_drop, HN.out]; omega, HO6.out, hbb⟩
end Go.Proofs.Ythaiplhjekkooaa
