/- Texts of the proof of DepsNamesSaid, joined: Row DeA DeB DeF DeH DfA DeC DeD. -/
import Derived.Test.YthaiplhjekkooaaJDepsNames1
import Derived.Laws.Rows
import Derived.Laws.Tables
import Derived.Deep.RegionHeld3
import Derived.BigRegion
import Derived.Test.YthaiplhjekkooaaJDepsNames2
import Derived.Deep.Cut
import Derived.Deep.QuietTactic
import Derived.BigQuiet
import Derived.Laws.OwnMore
import Derived.Deep.RegionWith
import Derived.StillTailTactics
/- Rows of structs: cells of a fixed number an element, one behind the other. Plain. -/
namespace Go.Proofs.Ythaiplhjekkooaa
open Go.RowKit

section
variable {α : Type} {f : α → List Value} {k : Nat}
def flatR (f : α → List Value) (l : List α) : List Value := l.flatMap f
theorem flatR_append (a b : List α) : flatR f (a ++ b) = flatR f a ++ flatR f b := by simp [flatR]
theorem flatR_cons (x : α) (l : List α) : flatR f (x :: l) = f x ++ flatR f l := rfl
theorem flatR_length (hk : ∀ x, (f x).length = k) (l : List α) : (flatR f l).length = l.length * k := by
  induction l with
  | nil => simp [flatR]
  | cons x l ih => rw [flatR_cons, List.length_append, ih, hk, List.length_cons, Nat.add_mul, Nat.one_mul, Nat.add_comm]
theorem flatR_get (hk : ∀ x, (f x).length = k) : ∀ {l : List α} {i : Nat} {x : α}, l[i]? = some x → ∀ j, j < k → (flatR f l)[i * k + j]? = (f x)[j]? := by
  intro l
  induction l with
  | nil => intro i x h; simp at h
  | cons u l ih =>
    intro i x h j hj
    rw [flatR_cons]
    cases i with
    | zero =>
      simp at h
      subst h
      rw [List.getElem?_append_left (by rw [hk]; omega), Nat.zero_mul, Nat.zero_add]
    | succ i =>
      have := ih (i := i) (x := x) (by simpa using h) j hj
      rw [List.getElem?_append_right (by rw [hk, Nat.add_mul]; omega), hk, show (i + 1) * k + j - k = i * k + j from by rw [Nat.add_mul]; omega]
      exact this
theorem flatR_take (hk : ∀ x, (f x).length = k) (l : List α) (n : Nat) : (flatR f l).take (n * k) = flatR f (l.take n) := by
  induction l generalizing n with
  | nil => simp [flatR]
  | cons x l ih =>
    cases n with
    | zero => simp [flatR]
    | succ n => rw [flatR_cons, List.take_succ_cons, flatR_cons, ← ih n, List.take_append, hk, List.take_of_length_le (by rw [hk, Nat.add_mul]; omega), show (n + 1) * k - k = n * k from by rw [Nat.add_mul]; omega]
theorem flatR_drop (hk : ∀ x, (f x).length = k) (l : List α) (n : Nat) : (flatR f l).drop (n * k) = flatR f (l.drop n) := by
  induction l generalizing n with
  | nil => simp [flatR]
  | cons x l ih =>
    cases n with
    | zero => simp [flatR]
    | succ n => rw [flatR_cons, List.drop_succ_cons, ← ih n, List.drop_append, hk, List.drop_eq_nil_of_le (by rw [hk, Nat.add_mul]; omega), show (n + 1) * k - k = n * k from by rw [Nat.add_mul]; omega, List.nil_append]
theorem flatR_one (h1 : ∀ x, ∀ u ∈ f x, u.oneCell' = true) (l : List α) : ∀ u ∈ flatR f l, u.oneCell' = true := by
  intro u hu
  obtain ⟨x, _, hx⟩ := List.mem_flatMap.1 hu
  exact h1 x u hx
/-- An element's cells. -/
theorem flatR_at (hk : ∀ x, (f x).length = k) (h0 : 0 < k) {w : World} {B : Nat} {A : Option Addr} {l : List α} (h : Rd w B A (flatR f l)) {i : Nat} {x : α} (hi : l[i]? = some x) :
    ∃ b o, A = some ⟨b, o, none⟩ ∧ b < B ∧ ∀ j, j < k → w.cell? ⟨b, o + (i * k + j), none⟩ = (f x)[j]? := by
  have hl := (List.getElem?_eq_some_iff.1 hi).1
  have hlen := flatR_length hk l
  have hpos : 0 < (flatR f l).length := by rw [hlen]; exact Nat.mul_pos (by omega) h0
  obtain ⟨b, o, hA, hb, hc⟩ := h (by intro e; rw [e] at hpos; simp at hpos)
  refine ⟨b, o, hA, hb, fun j hj => ?_⟩
  have h1 := flatR_get hk hi j hj
  have h2 : j < (f x).length := by rw [hk]; exact hj
  rw [List.getElem?_eq_getElem h2] at h1 ⊢
  exact hc _ _ h1
end
end Go.Proofs.Ythaiplhjekkooaa

/- Edges: what they are, as they lie; Bucket; the document's before; kit's SameEdges. -/
namespace Go.Proofs.Ythaiplhjekkooaa
open Go.RowKit
theorem loadEd_shutA (a : Addr) : loadVar 47 a = loadK 47 a := rfl
attribute [local go_sem ↓] loadEd_shutA

structure Ed where
  b : Nat
  f : ByteArray
  t : ByteArray
  n : Nat
deriving DecidableEq
def edC (e : Ed) : List Value := [.int .u64 e.b, .string e.f, .string e.t, .int .u64 e.n]
theorem edC_length (e : Ed) : (edC e).length = 4 := rfl
abbrev edA (e : Ed) : Array Value := #[.int .u64 e.b, .string e.f, .string e.t, .int .u64 e.n]
abbrev edV (e : Ed) : Value := .agg (edA e)
theorem edC_one (e : Ed) : ∀ u ∈ edC e, u.oneCell' = true := by
  intro u hu
  simp [edC] at hu
  rcases hu with h | h | h | h <;> subst h <;> rfl
abbrev eds (l : List Ed) : List Value := flatR edC l
theorem eds_length (l : List Ed) : (eds l).length = l.length * 4 := flatR_length edC_length l
/-- Edges that lie from A on. -/
abbrev RbD (w : World) (B : Nat) (A : Option Addr) (l : List Ed) : Prop := Rd w B A (eds l)
theorem RbD.at {w : World} {B : Nat} {A : Option Addr} {l : List Ed} (h : RbD w B A l) {i : Nat} {e : Ed} (hi : l[i]? = some e) :
    ∃ b o, A = some ⟨b, o, none⟩ ∧ b < B ∧ ∀ j, j < 4 → w.cell? ⟨b, o + (i * 4 + j), none⟩ = (edC e)[j]? := flatR_at edC_length (by omega) h hi
set_option maxRecDepth 100000 in
theorem loadK_ed {w : World} {b o i : Nat} {e : Ed} (h : ∀ j, j < 4 → w.cell? ⟨b, o + (i * 4 + j), none⟩ = (edC e)[j]?) : (loadK 47 ⟨b, o + i * 4, none⟩).run Try.prog w = .ok (edV e) w := by
  have hl := run_loadCells_list (P := Try.prog) w ⟨b, o + i * 4, none⟩ (edC e) (fun j v hv => by
    have hj : j < 4 := by have := (List.getElem?_eq_some_iff.1 hv).1; rwa [edC_length] at this
    rw [Addr.add_lit, Nat.add_assoc, h j hj, hv])
  have hi : (Try.prog.info? 47).map (·.size) = some (edC e).length := by rfl
  cases hq : Try.prog.info? 47 with
  | none => simp [hq] at hi
  | some i0 =>
    have hs : i0.size = (edC e).length := by simpa [hq] using hi
    have hagg : (isAgg 47).run Try.prog w = .ok true w := by
      unfold isAgg
      rw [Sem.run_bind, run_underlying Try.underlying47 w]
      rfl
    show (loadVar _ _).run _ _ = _
    simp [loadVar, Sem.run_bind, hagg, sizeOf, typeInfo, hq, hs, hl]
    rfl
set_option maxRecDepth 100000 in
theorem loadK_edB {w : World} {g : Nat} {e : Ed} (h : Bk w g 47 (edA e)) : (loadK 47 ⟨g, 0, none⟩).run Try.prog w = .ok (edV e) w :=
  run_loadVar_row w g _ _ (edA e) (0, 0) _ h Try.underlying47 rfl (by rfl)

/-- A bucket. -/
def bktOf (start size : Int) : Nat × Nat := if start < 0 ∨ size < 1 then (0, 2) else ((start / size).toNat, 0)
theorem bkt_num {start size : Int} (h0 : 0 ≤ start) (h1 : 1 ≤ size) (h2 : start ≤ 9223372036854775807) : start.tdiv size = ((start / size).toNat : Int) ∧ (start / size).toNat ≤ 9223372036854775807 := by
  have e : start.tdiv size = start / size := Int.tdiv_eq_ediv_of_nonneg h0
  have h3 : 0 ≤ start / size := Int.ediv_nonneg h0 (by omega)
  have h4 : start / size ≤ start := Int.ediv_le_self _ h0
  rw [e]
  omega
theorem deBucket (start size : Int) (w : World) (hs0 : -9223372036854775808 ≤ start) (hs1 : start ≤ 9223372036854775807) (hz0 : -9223372036854775808 ≤ size) (hz1 : size ≤ 9223372036854775807) :
    Calls Try.prog 12 #[.int .i64 start, .int .i64 size] w fun e w' => e = .returned (.tuple #[.int .u64 (bktOf start size).1, .int .i64 (bktOf start size).2]) ∧ w' = w := by
  unfold bktOf
  by_cases h0 : start < 0
  · rw [if_pos (.inl h0)]
    have d0 : decide (start < 0) = true := by simp [h0]
    go_enter Try.func12, Try.ntmps12
    go_wp2_with fail
    go_ret2
    exact ⟨rfl, rfl⟩
  · have d0 : decide (start < 0) = false := by simp; omega
    by_cases h1 : size < 1
    · rw [if_pos (.inr h1)]
      have d1 : decide (size < 1) = true := by simp [h1]
      go_enter Try.func12, Try.ntmps12
      go_wp2_with fail
      go_ret2
      exact ⟨rfl, rfl⟩
    · rw [if_neg (by omega)]
      have d1 : decide (size < 1) = false := by simp; omega
      obtain ⟨e1, e2⟩ := bkt_num (start := start) (size := size) (by omega) (by omega) hs1
      obtain ⟨q, hq⟩ : ∃ q, (start / size).toNat = q := ⟨_, rfl⟩
      rw [hq] at e1 e2 ⊢
      have hz : size ≠ 0 := by omega
      have hw : IntKind.i64.wrap (q : Int) = (q : Int) := IntWalk.i64_in _ ⟨by omega, by omega⟩
      have hu : IntKind.u64.wrap (q : Int) = (q : Int) := IntWalk.u64_in _ ⟨by omega, by omega⟩
      go_enter Try.func12, Try.ntmps12
      go_wp2_with fail
      go_ret2
      exact ⟨rfl, rfl⟩
theorem rDeBucket (start size : Int) (w : World) (hs0 : -9223372036854775808 ≤ start) (hs1 : start ≤ 9223372036854775807) (hz0 : -9223372036854775808 ≤ size) (hz1 : size ≤ 9223372036854775807) :
    Calls Try.prog 13 #[.int .i64 start, .int .i64 size] w fun e w' => e = .returned (.tuple #[.int .u64 (bktOf start size).1, .int .i64 (bktOf start size).2]) ∧ w' = w := by
  unfold bktOf
  by_cases h0 : start < 0
  · rw [if_pos (.inl h0)]
    have d0 : decide (start < 0) = true := by simp [h0]
    go_enter Try.func13, Try.ntmps13
    go_wp2_with fail
    go_ret2
    exact ⟨rfl, rfl⟩
  · have d0 : decide (start < 0) = false := by simp; omega
    by_cases h1 : size < 1
    · rw [if_pos (.inr h1)]
      have d1 : decide (size < 1) = true := by simp [h1]
      go_enter Try.func13, Try.ntmps13
      go_wp2_with fail
      go_ret2
      exact ⟨rfl, rfl⟩
    · rw [if_neg (by omega)]
      have d1 : decide (size < 1) = false := by simp; omega
      obtain ⟨e1, e2⟩ := bkt_num (start := start) (size := size) (by omega) (by omega) hs1
      obtain ⟨q, hq⟩ : ∃ q, (start / size).toNat = q := ⟨_, rfl⟩
      rw [hq] at e1 e2 ⊢
      have hz : size ≠ 0 := by omega
      have hw : IntKind.i64.wrap (q : Int) = (q : Int) := IntWalk.i64_in _ ⟨by omega, by omega⟩
      have hu : IntKind.u64.wrap (q : Int) = (q : Int) := IntWalk.u64_in _ ⟨by omega, by omega⟩
      go_enter Try.func13, Try.ntmps13
      go_wp2_with fail
      go_ret2
      exact ⟨rfl, rfl⟩
end Go.Proofs.Ythaiplhjekkooaa

/- Edges: the document's before; kit's SameEdges. -/
namespace Go.Proofs.Ythaiplhjekkooaa
open Go.RowKit
theorem loadEd_shutB2 (a : Addr) : loadVar 47 a = loadK 47 a := rfl
attribute [local go_sem ↓] loadEd_shutB2

/-- Is an edge ahead of another one? -/
def edLt (a b : Ed) : Bool := if a.b ≠ b.b then decide (a.b < b.b) else if a.f ≠ b.f then strLt a.f b.f else strLt a.t b.t
set_option maxRecDepth 100000 in
set_option maxHeartbeats 2000000 in
theorem rDeBefore (x y : Ed) (w : World) : Calls Try.prog 48 #[edV x, edV y] w fun e w' => e = .returned (.bool (edLt x y)) ∧ Below w.heap.size w w' := by
  have hb0 : Below w.heap.size w ((w.alloc (.cells (edA x) 47)).alloc (.cells (edA y) 47)) := ((Below.refl _ w).alloc (Nat.le_refl _) _).alloc (by simp) _
  have bk1 := (Bk.new w 47 (edA x)).alloc (.cells (edA y) 47)
  have bk2 := Bk.new (w.alloc (.cells (edA x) 47)) 47 (edA y)
  rw [World.size_alloc] at bk2
  obtain ⟨w1, hw1⟩ : ∃ w1, (w.alloc (.cells (edA x) 47)).alloc (.cells (edA y) 47) = w1 := ⟨_, rfl⟩
  obtain ⟨g, hg⟩ : ∃ g, w.heap.size = g := ⟨_, rfl⟩
  rw [hw1] at hb0 bk1 bk2
  rw [hg] at bk1 bk2
  have x0 : w1.cell? ⟨g, 0, none⟩ = some (.int .u64 x.b) := bk1.cell 0
  have x1 : w1.cell? ⟨g, 1, none⟩ = some (.string x.f) := bk1.cell 1
  have x2 : w1.cell? ⟨g, 2, none⟩ = some (.string x.t) := bk1.cell 2
  have y0 : w1.cell? ⟨g + 1, 0, none⟩ = some (.int .u64 y.b) := bk2.cell 0
  have y1 : w1.cell? ⟨g + 1, 1, none⟩ = some (.string y.f) := bk2.cell 1
  have y2 : w1.cell? ⟨g + 1, 2, none⟩ = some (.string y.t) := bk2.cell 2
  obtain ⟨r, hr⟩ : ∃ r, edLt x y = r := ⟨_, rfl⟩
  rw [hr]
  unfold edLt at hr
  obtain ⟨xb, hxb⟩ : ∃ q, x.b = q := ⟨_, rfl⟩
  obtain ⟨xf, hxf⟩ : ∃ q, x.f = q := ⟨_, rfl⟩
  obtain ⟨xt, hxt⟩ : ∃ q, x.t = q := ⟨_, rfl⟩
  obtain ⟨yb, hyb⟩ : ∃ q, y.b = q := ⟨_, rfl⟩
  obtain ⟨yf, hyf⟩ : ∃ q, y.f = q := ⟨_, rfl⟩
  obtain ⟨yt, hyt⟩ : ∃ q, y.t = q := ⟨_, rfl⟩
  rw [hxb] at x0 hr
  rw [hxf] at x1 hr
  rw [hxt] at x2 hr
  rw [hyb] at y0 hr
  rw [hyf] at y1 hr
  rw [hyt] at y2 hr
  have HW := Lib.hid hw1
  have HG := Lib.hid hg
  have HR := Lib.hid hr
  clear hw1 hg hr bk1 bk2 hxb hxf hxt hyb hyf hyt
  go_enter Try.func48, Try.ntmps48
  go_upto_region 1 with fail
  rw [HW.out, HG.out]
  by_cases h1 : xb = yb
  · have h1' : ((xb : Int) != (yb : Int)) = false := by simp; omega
    by_cases h2 : xf = yf
    · subst h2
      have hr := HR.out
      rw [if_neg (by simp [h1]), if_neg (by simp)] at hr
      go_wp2_with fail
      go_ret
      exact ⟨by rw [← hr]; rfl, hb0⟩
    · have h2' : (xf.toList != yf.toList) = true := by rw [bne, strEq_of', decide_eq_false h2]; rfl
      have h2'' : (xf.toList == yf.toList) = false := by rw [strEq_of', decide_eq_false h2]
      have hr := HR.out
      rw [if_neg (by simp [h1]), if_pos h2] at hr
      go_wp2_with fail
      go_ret
      exact ⟨by rw [← hr]; rfl, hb0⟩
  · have h1' : ((xb : Int) != (yb : Int)) = true := by simp; omega
    have hr := HR.out
    rw [if_pos h1] at hr
    have hd : decide ((xb : Int) < (yb : Int)) = r := by rw [← hr]; simp
    go_wp2_with fail
    go_ret
    exact ⟨by rw [← hd]; rfl, hb0⟩
theorem neqEd (W : World) (x y : Ed) : (binOp .neq 47 (edV x) (edV y)).run Try.prog W = .ok (.bool (!decide (x = y))) W := by
  obtain ⟨xb, xf, xt, xn⟩ := x
  obtain ⟨yb, yf, yt, yn⟩ := y
  simp only [Ed.mk.injEq]
  have s1 : (xf.toList == yf.toList) = decide (xf = yf) := strEq_of'
  have s2 : (xt.toList == yt.toList) = decide (xt = yt) := strEq_of'
  by_cases h1 : xb = yb
  · subst h1
    have e1 : ((xb : Int) == (xb : Int)) = true := by simp
    by_cases h2 : xf = yf
    · subst h2
      by_cases h3 : xt = yt
      · subst h3
        by_cases h4 : xn = yn
        · subst h4
          simp only [and_self, decide_true, Bool.not_true]
          have e4 : ((xn : Int) == (xn : Int)) = true := by simp
          go_simp
        · have e4 : ((xn : Int) == (yn : Int)) = false := by simp; omega
          simp only [h4, and_false, decide_false, Bool.not_false]
          go_simp
      · rw [decide_eq_false h3] at s2
        simp only [h3, and_false, false_and, decide_false, Bool.not_false]
        go_simp
    · rw [decide_eq_false h2] at s1
      simp only [h2, and_false, false_and, decide_false, Bool.not_false]
      go_simp
  · have e1 : ((xb : Int) == (yb : Int)) = false := by simp; omega
    simp only [h1, false_and, decide_false, Bool.not_false]
    go_simp
set_option maxRecDepth 100000 in
set_option maxHeartbeats 2000000 in
theorem kitSameEds {A A' : Option Addr} {n n' c c' B B' : Nat} (l m : List Ed) (w : World) (h : RbD w B A l) (h' : RbD w B' A' m) (hn : l.length = n) (hn' : m.length = n') (hnl : n ≤ 9223372036854775807) :
    Calls Try.prog 14 #[.slice A n c, .slice A' n' c'] w fun e w' => e = .returned (.bool (decide (l = m))) ∧ ∃ d, w' = w.drewN d := by
  obtain ⟨q, hq⟩ : ∃ q, decide (l = m) = q := ⟨_, rfl⟩
  rw [hq]
  have HQ := Lib.hid hq
  have HN := Lib.hid hn
  have HN' := Lib.hid hn'
  clear hq hn hn'
  by_cases hne : n = n'
  · subst hne
    go_enter Try.func14, Try.ntmps14
    go_wp2_with fail
    go_loopw [5] (fun i_ wr => ∃ k d : Nat, k ≤ n ∧ i_ = .int .i64 k ∧ Hid (l.take k = m.take k) ∧ wr = w.drewN d) (fun i_ _ => n - (intOf i_).toNat)
    case atStart => exact ⟨0, 0, by omega, rfl, Lib.hid rfl, rfl⟩
    case round =>
      obtain ⟨k, d, hk, rfl, HT, rfl⟩ := hrel
      by_cases hlt : k < n
      · have hlt' : (k : Int) < (n : Int) := by omega
        obtain ⟨x, hx⟩ : ∃ x, l[k]? = some x := ⟨_, List.getElem?_eq_getElem (by rw [HN.out]; exact hlt)⟩
        obtain ⟨y, hy⟩ : ∃ y, m[k]? = some y := ⟨_, List.getElem?_eq_getElem (by rw [HN'.out]; exact hlt)⟩
        obtain ⟨b1, o1, e1, -, hc1⟩ := RbD.at (Rd.drewN h (d + 1)) hx
        obtain ⟨b2, o2, e2, -, hc2⟩ := RbD.at (Rd.drewN h' (d + 1)) hy
        subst e1 e2
        have lx := loadK_ed hc1
        have ly := loadK_ed hc2
        rw [← World.drewN_drewN] at lx ly
        have nq := fun W => neqEd W x y
        obtain ⟨tb, htb⟩ : ∃ tb, decide (x = y) = tb := ⟨_, rfl⟩
        simp only [htb] at nq
        have HTB := Lib.hid htb
        have HX := Lib.hid hx
        have HY := Lib.hid hy
        clear hc1 hc2 htb hx hy
        go_wp2_with fail
        go_region_held3 (fun w' => (loadK 47 ⟨b1, o1 + k * 4, none⟩).run Try.prog w' = .ok (edV x) w' ∧ (loadK 47 ⟨b2, o2 + k * 4, none⟩).run Try.prog w' = .ok (edV y) w')
          (exact ⟨lx, ly⟩) (fail)
        cases tb with
        | true =>
          have hxy : x = y := of_decide_eq_true HTB.out
          go_wp2_with fail
          exact ⟨⟨k + 1, d + 1, by omega, by go_num, Lib.hid (by rw [take_snoc HX.out, take_snoc HY.out, HT.out, hxy]), World.drewN_drewN _ d 1⟩, by simp only [intOf]; omega⟩
        | false =>
          have hqf : q = false := by
            rw [← HQ.out, decide_eq_false_iff_not]
            intro e
            have h1 := HX.out
            rw [e, HY.out] at h1
            exact (of_decide_eq_false HTB.out) (Option.some.inj h1).symm
          subst hqf
          go_wp2_with fail
          go_ret
          exact ⟨rfl, d + 1, World.drewN_drewN _ d 1⟩
      · have hlt' : decide ((k : Int) < (n : Int)) = false := by simp; omega
        have hqt : q = true := by
          rw [← HQ.out, decide_eq_true_eq]
          have := HT.out
          rwa [List.take_of_length_le (by rw [HN.out]; omega), List.take_of_length_le (by rw [HN'.out]; omega)] at this
        subst hqt
        go_wp2_with fail
        go_ret
        exact ⟨rfl, d, rfl⟩
  · have hqf : q = false := by
      rw [← HQ.out, decide_eq_false_iff_not]
      intro e
      exact hne (by rw [← HN.out, ← HN'.out, e])
    subst hqf
    have hne' : ((n : Int) != (n' : Int)) = true := by simp; omega
    go_enter Try.func14, Try.ntmps14
    go_wp2_with fail
    go_ret
    exact ⟨rfl, 0, rfl⟩
end Go.Proofs.Ythaiplhjekkooaa

/- deps: edges as keys of a map. -/
namespace Go.Proofs.Ythaiplhjekkooaa
open Go.RowKit Go.MapKept

structure Ek where
  b : Nat
  f : ByteArray
  t : ByteArray
deriving DecidableEq
abbrev ekA (e : Ek) : Array Value := #[.int .u64 e.b, .string e.f, .string e.t]
abbrev ekV (e : Ek) : Value := .agg (ekA e)
theorem eqEk (W : World) (x y : Ek) : (Op.equal 71 (ekV x) (ekV y)).run Try.prog W = .ok (decide (x = y)) W := by
  obtain ⟨xb, xf, xt⟩ := x
  obtain ⟨yb, yf, yt⟩ := y
  simp only [Ek.mk.injEq, ekV, ekA]
  rw [show Op.equal 71 (.agg #[.int .u64 xb, .string xf, .string xt]) (.agg #[.int .u64 yb, .string yf, .string yt]) = Op.equalIn 10000 71 (.agg #[.int .u64 xb, .string xf, .string xt]) (.agg #[.int .u64 yb, .string yf, .string yt]) from rfl]
  have s1 : (xf.toList == yf.toList) = decide (xf = yf) := strEq_of'
  have s2 : (xt.toList == yt.toList) = decide (xt = yt) := strEq_of'
  by_cases h1 : xb = yb
  · subst h1
    have e1 : ((xb : Int) == (xb : Int)) = true := by simp
    by_cases h2 : xf = yf
    · subst h2
      by_cases h3 : xt = yt
      · subst h3
        simp only [and_self, decide_true]
        go_simp
      · rw [decide_eq_false h3] at s2
        simp only [h3, and_false, decide_false]
        go_simp
    · rw [decide_eq_false h2] at s1
      simp only [h2, and_false, false_and, decide_false]
      go_simp
  · have e1 : ((xb : Int) == (yb : Int)) = false := by simp; omega
    simp only [h1, false_and, decide_false]
    go_simp
theorem chkEk (W : World) (em : Bool) (x : Ek) : (Instr.checkKey em 10000 71 (ekV x)).run Try.prog W = .ok () W := by
  have c1 : ∀ W', (Instr.checkKey em 9999 29 (.int .u64 x.b)).run Try.prog W' = .ok () W' := fun W' => MapKept.run_checkKey Try.underlying29 (by simp [IsKey]) em 9998
  have c2 : ∀ W', (Instr.checkKey em 9999 9 (.string x.f)).run Try.prog W' = .ok () W' := fun W' => MapKept.run_checkKey Try.underlying9 (by simp [IsKey]) em 9998
  have c3 : ∀ W', (Instr.checkKey em 9999 9 (.string x.t)).run Try.prog W' = .ok () W' := fun W' => MapKept.run_checkKey Try.underlying9 (by simp [IsKey]) em 9998
  unfold Instr.checkKey
  go_simp
theorem findAsk (W : World) (x : Ek) : ∀ (es : List MapEntry) (i : Nat), (∀ e ∈ es, ∃ y, e.key = ekV y) →
    ((Instr.findAsking 71 (ekV x) es i).run Try.prog W = .ok none W ∧ ∀ e ∈ es, e.key ≠ ekV x) ∨ ∃ j e, (Instr.findAsking 71 (ekV x) es i).run Try.prog W = .ok (some (i + j, e.val)) W ∧ es[j]? = some e ∧ e.key = ekV x
  | [], i, _ => .inl ⟨rfl, by simp⟩
  | e :: es, i, h => by
    obtain ⟨y, hy⟩ := h e (.head _)
    have hq := eqEk W x y
    by_cases hxy : x = y
    · refine .inr ⟨0, e, ?_, rfl, by rw [hy, hxy]⟩
      rw [decide_eq_true hxy] at hq
      simp [Instr.findAsking, hy, Sem.run_bind, hq, Result.andThen]
    · rw [decide_eq_false hxy] at hq
      have hne : e.key ≠ ekV x := fun e1 => hxy (by
        rw [hy] at e1
        obtain ⟨xb, xf, xt⟩ := x
        obtain ⟨yb, yf, yt⟩ := y
        simp at e1
        obtain ⟨h1, h2, h3⟩ := e1
        have h1 : xb = yb := by omega
        subst h1 h2 h3
        rfl)
      rcases findAsk W x es (i + 1) (fun z hz => h z (.tail _ hz)) with ⟨h1, h2⟩ | ⟨j, e', h1, h2, h3⟩
      · exact .inl ⟨by simp [Instr.findAsking, hy, Sem.run_bind, hq, Result.andThen, h1], fun z hz => by
          cases hz with
          | head => exact hne
          | tail _ hz => exact h2 z hz⟩
      · exact .inr ⟨j + 1, e', by simp [Instr.findAsking, hy, Sem.run_bind, hq, Result.andThen, h1]; omega, by simpa using h2, h3⟩
theorem ekRun : KeyRun Try.prog 71 ekV where
  inj {x y} h := by
    obtain ⟨xb, xf, xt⟩ := x
    obtain ⟨yb, yf, yt⟩ := y
    simp at h
    obtain ⟨h1, h2, h3⟩ := h
    have h1 : xb = yb := by omega
    subst h1 h2 h3
    rfl
  check W em x := chkEk W em x
  find W x es hes := by
    have hf : Instr.findKey 71 (ekV x) es = Instr.findKey 71 (ekV x) es := rfl
    have hk : ∀ fs, Instr.findNow (.struct fs) (ekV x) es 0 = if es = [] then some none else none := fun fs => by
      cases es with
      | nil => rfl
      | cons e es => rfl
    have hu := Try.underlying71
    have hrun : (Instr.findKey 71 (ekV x) es).run Try.prog W = (Instr.findAsking 71 (ekV x) es 0).run Try.prog W := by
      unfold Instr.findKey
      rw [Sem.run_bind, run_underlying hu]
      simp only [Result.andThen, hk]
      cases es with
      | nil => rfl
      | cons e es => rfl
    rcases findAsk W x es 0 hes with ⟨h1, h2⟩ | ⟨j, e, h1, h2, h3⟩
    · exact .inl ⟨hrun.trans h1, h2⟩
    · exact .inr ⟨j, e, by rw [hrun, h1, Nat.zero_add], h2, h3⟩
  stays W x := by
    have h : Instr.sameBits 10000 (ekV x) (ekV x) = true := by simp [Instr.sameBits, bytes_beq]
    unfold Instr.keyThatStays
    rw [h]
    rfl
end Go.Proofs.Ythaiplhjekkooaa

/- deps: compare; the order of edges. -/
namespace Go.Proofs.Ythaiplhjekkooaa
open Go.RowKit

def ekCmp (a b : Ek) : Int := orL [cmpI a.b b.b, cmpS a.f b.f, cmpS a.t b.t]
theorem ekCmp_cmp : Cmp ekCmp := by
  have h := (cmpI_cmp.lex (cmpS_cmp.lex cmpS_cmp)).pull (fun e : Ek => ((e.b : Int), e.f, e.t)) (fun x y h => by
    obtain ⟨xb, xf, xt⟩ := x
    obtain ⟨yb, yf, yt⟩ := y
    simp at h
    obtain ⟨h1, h2, h3⟩ := h
    have h1 : xb = yb := by omega
    subst h1 h2 h3
    rfl)
  have e : ekCmp = fun x y : Ek => if cmpI x.b y.b ≠ 0 then cmpI x.b y.b else if cmpS x.f y.f ≠ 0 then cmpS x.f y.f else cmpS x.t y.t := by
    funext x y
    simp only [ekCmp, orL]
    by_cases h1 : cmpI x.b y.b = 0
    · by_cases h2 : cmpS x.f y.f = 0
      · by_cases h3 : cmpS x.t y.t = 0 <;> simp [h1, h2, h3]
      · simp [h1, h2]
    · simp [h1]
  rw [e]
  exact h
def edK (e : Ed) : Ek := ⟨e.b, e.f, e.t⟩
def SortEd (l : List Ed) : Prop := l.Pairwise fun a b => ekCmp (edK a) (edK b) ≤ 0
theorem strLt_cmpS (s t : ByteArray) : strLt s t = decide (cmpS s t = -1) := by
  rcases strLt_ways s t with ⟨h1, h2⟩ | ⟨h1, -, h2⟩ | ⟨h1, -, h2⟩ <;> rw [h1, h2] <;> rfl
theorem ekCmp_def (a b : Ek) : ekCmp a b = if cmpI a.b b.b ≠ 0 then cmpI a.b b.b else if cmpS a.f b.f ≠ 0 then cmpS a.f b.f else cmpS a.t b.t := by
  simp only [ekCmp, orL]
  by_cases h1 : cmpI a.b b.b = 0
  · by_cases h2 : cmpS a.f b.f = 0
    · by_cases h3 : cmpS a.t b.t = 0 <;> simp [h1, h2, h3]
    · simp [h1, h2]
  · simp [h1]
theorem edLt_cmp (a b : Ed) : edLt a b = true ↔ ekCmp (edK a) (edK b) = -1 := by
  rw [ekCmp_def]
  show _ ↔ (if cmpI a.b b.b ≠ 0 then cmpI a.b b.b else if cmpS a.f b.f ≠ 0 then cmpS a.f b.f else cmpS a.t b.t) = -1
  unfold edLt
  by_cases h1 : a.b = b.b
  · have e1 : cmpI (a.b : Int) (b.b : Int) = 0 := (cmpI_cmp.eq _ _).2 (by omega)
    rw [if_neg (show ¬ a.b ≠ b.b from fun h => h h1), if_neg (show ¬ cmpI (a.b : Int) (b.b : Int) ≠ 0 from fun h => h e1)]
    by_cases h2 : a.f = b.f
    · have e2 : cmpS a.f b.f = 0 := (cmpS_cmp.eq _ _).2 h2
      rw [if_neg (show ¬ a.f ≠ b.f from fun h => h h2), if_neg (show ¬ cmpS a.f b.f ≠ 0 from fun h => h e2), strLt_cmpS, decide_eq_true_eq]
    · have e2 : cmpS a.f b.f ≠ 0 := fun h => h2 ((cmpS_cmp.eq _ _).1 h)
      rw [if_pos h2, if_pos e2, strLt_cmpS, decide_eq_true_eq]
  · have e1 : cmpI (a.b : Int) (b.b : Int) ≠ 0 := fun h => h1 (by have := (cmpI_cmp.eq _ _).1 h; omega)
    rw [if_pos h1, if_pos e1, decide_eq_true_eq, cmpI]
    constructor
    · intro h
      rw [if_pos (by omega)]
    · intro h
      by_cases h3 : (a.b : Int) < (b.b : Int)
      · omega
      · rw [if_neg h3] at h
        split at h <;> simp at h
set_option maxRecDepth 100000 in
set_option maxHeartbeats 2000000 in
theorem deCompare (x y : Ed) (w : World) :
    Calls Try.prog 42 #[edV x, edV y] w fun e w' => e = .returned (.int .i64 (ekCmp (edK x) (edK y))) ∧ Below w.heap.size w w' ∧ w.drawn ≤ w'.drawn := by
  have b1 := (Bk.new w 47 (edA x)).alloc (.cells (edA y) 47)
  have b2 := Bk.new (w.alloc (.cells (edA x) 47)) 47 (edA y)
  rw [World.size_alloc] at b2
  have hb0 : Below w.heap.size w ((w.alloc (.cells (edA x) 47)).alloc (.cells (edA y) 47)) := ((Below.refl _ w).alloc (Nat.le_refl _) _).alloc (by simp) _
  obtain ⟨W, hW⟩ : ∃ W, (w.alloc (.cells (edA x) 47)).alloc (.cells (edA y) 47) = W := ⟨_, rfl⟩
  rw [hW] at b1 b2 hb0
  have HW := Lib.hid hW
  obtain ⟨g, hg⟩ : ∃ g, w.heap.size = g := ⟨_, rfl⟩
  rw [hg] at b1 b2
  have HG := Lib.hid hg
  have k10 : W.cell? ⟨g, 0, none⟩ = some (.int .u64 x.b) := b1.cell 0
  have k11 : W.cell? ⟨g, 1, none⟩ = some (.string x.f) := b1.cell 1
  have k12 : W.cell? ⟨g, 2, none⟩ = some (.string x.t) := b1.cell 2
  have k20 : W.cell? ⟨g + 1, 0, none⟩ = some (.int .u64 y.b) := b2.cell 0
  have k21 : W.cell? ⟨g + 1, 1, none⟩ = some (.string y.f) := b2.cell 1
  have k22 : W.cell? ⟨g + 1, 2, none⟩ = some (.string y.t) := b2.cell 2
  have hsz := hb0.size
  obtain ⟨xb, hxb⟩ : ∃ q, x.b = q := ⟨_, rfl⟩
  obtain ⟨xf, hxf⟩ : ∃ q, x.f = q := ⟨_, rfl⟩
  obtain ⟨xt, hxt⟩ : ∃ q, x.t = q := ⟨_, rfl⟩
  obtain ⟨yb, hyb⟩ : ∃ q, y.b = q := ⟨_, rfl⟩
  obtain ⟨yf, hyf⟩ : ∃ q, y.f = q := ⟨_, rfl⟩
  obtain ⟨yt, hyt⟩ : ∃ q, y.t = q := ⟨_, rfl⟩
  have hres : ekCmp (edK x) (edK y) = orL [cmpI xb yb, cmpS xf yf, cmpS xt yt] := by rw [ekCmp, edK, edK, hxb, hxf, hxt, hyb, hyf, hyt]
  rw [hres]
  rw [hxb] at k10
  rw [hxf] at k11
  rw [hxt] at k12
  rw [hyb] at k20
  rw [hyf] at k21
  rw [hyt] at k22
  obtain ⟨c1, hc1⟩ : ∃ c, cmpI xb yb = c := ⟨_, rfl⟩
  obtain ⟨c2, hc2⟩ : ∃ c, cmpS xf yf = c := ⟨_, rfl⟩
  obtain ⟨c3, hc3⟩ : ∃ c, cmpS xt yt = c := ⟨_, rfl⟩
  have u1 := fun w => cmpU xb yb w
  rw [hc1] at u1
  have u2 := fun w => cmpStr xf yf w
  rw [hc2] at u2
  have u3 := fun w => cmpStr xt yt w
  rw [hc3] at u3
  rw [hc1, hc2, hc3]
  obtain ⟨q, hq⟩ : ∃ q, orL [c1, c2, c3] = q := ⟨_, rfl⟩
  rw [hq]
  have HQ := Lib.hid hq
  have HB := Lib.hid hb0
  have bo := (Bk.new W 3 #[.int .i64 c1, .int .i64 c2, .int .i64 c3]).drew
  have hor := cmpOr (l := [c1, c2, c3]) (n := 3) _ rfl (by decide) bo
  rw [hq] at hor
  have HOR := Lib.hid hor
  clear hor hW hg b1 b2 hc1 hc2 hc3 hres hq hb0 hxb hxf hxt hyb hyf hyt bo
  go_enter Try.func42, Try.ntmps42
  go_upto_region 1 with fail
  rw [HW.out, HG.out]
  go_region_held3 (fun w' => w'.cell? ⟨g, 0, none⟩ = some (.int .u64 xb) ∧ w'.cell? ⟨g, 1, none⟩ = some (.string xf) ∧ w'.cell? ⟨g, 2, none⟩ = some (.string xt) ∧ w'.cell? ⟨g + 1, 0, none⟩ = some (.int .u64 yb) ∧ w'.cell? ⟨g + 1, 1, none⟩ = some (.string yf) ∧ w'.cell? ⟨g + 1, 2, none⟩ = some (.string yt))
    (go_keep)
    (first
      | (go_at_call 58
         refine (u1 _).mono ?_
         rintro e w' ⟨rfl, hw⟩
         rw [hw]
         clear hw w')
      | (go_at_call_of 59 (Value.string xf)
         refine (u2 _).mono ?_
         rintro e w' ⟨rfl, hw⟩
         rw [hw]
         clear hw w')
      | (go_at_call_of 59 (Value.string xt)
         refine (u3 _).mono ?_
         rintro e w' ⟨rfl, hw⟩
         rw [hw]
         clear hw w')
      | (go_at_call 57
         refine HOR.out.mono ?_
         rintro e w' ⟨rfl, hw⟩
         rw [hw]
         clear hw w')
      | fail)
  all_goals
    go_wp2
    go_ret
    exact ⟨rfl, below_drewN (HB.out.alloc hsz (.cells #[.int .i64 c1, .int .i64 c2, .int .i64 c3] 3)) 1, by rw [← HW.out]; exact Nat.le_add_right w.drawn 1⟩
end Go.Proofs.Ythaiplhjekkooaa

/- deps: Calls, plain: what services one comes to. -/
namespace Go.Proofs.Ythaiplhjekkooaa

/-- The services that s comes to. -/
inductive Rch (l : List Ed) (s : ByteArray) : ByteArray → Prop
  | one {e : Ed} : e ∈ l → e.f = s → Rch l s e.t
  | more {e : Ed} : e ∈ l → Rch l s e.f → Rch l s e.t
/-- Texts that are all of them, each once. -/
structure Full (l : List Ed) (s : ByteArray) (L : List ByteArray) : Prop where
  nd : L.Nodup
  rch : ∀ x ∈ L, Rch l s x
  cl : ∀ e ∈ l, (e.f = s ∨ e.f ∈ L) → e.t ∈ L
theorem Full.iff {l : List Ed} {s : ByteArray} {L : List ByteArray} (h : Full l s L) (x : ByteArray) : x ∈ L ↔ Rch l s x := by
  refine ⟨h.rch x, fun hx => ?_⟩
  induction hx with
  | one he hf => exact h.cl _ he (.inl hf)
  | more he _ ih => exact h.cl _ he (.inr ih)
theorem Full.perm {l : List Ed} {s : ByteArray} {L M : List ByteArray} (h : Full l s L) (k : Full l s M) : L.Perm M :=
  (List.perm_ext_iff_of_nodup h.nd k.nd).2 fun x => (h.iff x).trans (k.iff x).symm
/-- Texts in order. -/
def SortT (l : List ByteArray) : Prop := l.Pairwise fun a b => strLt b a = false
theorem strLt_cmp1 (a b : ByteArray) : strLt a b = true ↔ cmpS a b = -1 := by
  rw [strLt_cmpS]
  simp
theorem strLt_tr {a b c : ByteArray} (h : strLt b a = false) (k : strLt c b = false) : strLt c a = false := by
  have h1 : cmpS b a ≠ -1 := fun e => by rw [(strLt_cmp1 b a).2 e] at h; cases h
  have h2 : cmpS c b ≠ -1 := fun e => by rw [(strLt_cmp1 c b).2 e] at k; cases k
  rw [← Bool.not_eq_true, strLt_cmp1]
  intro h3
  have r1 := cmpS_cmp.rng a b
  have n1 := cmpS_cmp.neg a b
  have n2 := cmpS_cmp.neg b c
  have n3 := cmpS_cmp.neg a c
  have r2 := cmpS_cmp.rng b c
  by_cases e1 : cmpS a b = 0
  · have := (cmpS_cmp.eq a b).1 e1
    subst this
    exact h2 h3
  by_cases e2 : cmpS b c = 0
  · have := (cmpS_cmp.eq b c).1 e2
    subst this
    exact h1 h3
  have h4 := cmpS_cmp.tr a b c (by omega) (by omega)
  omega
theorem SortT.eq {l m : List ByteArray} (hl : SortT l) (hm : SortT m) (h : l.Perm m) : l = m :=
  List.Perm.eq_of_pairwise (le := fun a b => strLt b a = false) (fun a b _ _ h1 h2 => by
    have h3 : cmpS b a ≠ -1 := fun e => by rw [(strLt_cmp1 b a).2 e] at h1; cases h1
    have h4 : cmpS a b ≠ -1 := fun e => by rw [(strLt_cmp1 a b).2 e] at h2; cases h2
    have r1 := cmpS_cmp.rng a b
    have n1 := cmpS_cmp.neg a b
    exact (cmpS_cmp.eq a b).1 (by omega)) hl hm h
/-- What Calls answers, edges that may be. -/
def CallsIs (l : List Ed) (s : ByteArray) (out : List ByteArray) : Prop := SortT out ∧ ∃ L, Full l s L ∧ out.Perm L
theorem CallsIs.eq {l : List Ed} {s : ByteArray} {a b : List ByteArray} (h : CallsIs l s a) (k : CallsIs l s b) : a = b := by
  obtain ⟨h1, L, h2, h3⟩ := h
  obtain ⟨k1, M, k2, k3⟩ := k
  exact h1.eq k1 ((h3.trans (h2.perm k2)).trans k3.symm)
theorem nodup_sub_len {α : Type} [DecidableEq α] : ∀ {L M : List α}, L.Nodup → (∀ x ∈ L, x ∈ M) → L.length ≤ M.length
  | [], _, _, _ => Nat.zero_le _
  | x :: L, M, hn, h => by
    obtain ⟨h1, h2⟩ := List.nodup_cons.1 hn
    have hx := h x (List.mem_cons_self ..)
    have := nodup_sub_len (L := L) (M := M.erase x) h2 fun y hy => by
      have hne : y ≠ x := fun e => h1 (e ▸ hy)
      exact (List.mem_erase_of_ne hne).2 (h y (List.mem_cons_of_mem _ hy))
    rw [List.length_erase_of_mem hx] at this
    have hp := List.length_pos_of_mem hx
    rw [List.length_cons]
    omega
theorem rch_t {l : List Ed} {s x : ByteArray} (h : Rch l s x) : x ∈ l.map (·.t) := by
  cases h with
  | one he _ => exact List.mem_map.2 ⟨_, he, rfl⟩
  | more he _ => exact List.mem_map.2 ⟨_, he, rfl⟩
theorem Rch.len {l : List Ed} {s : ByteArray} {L : List ByteArray} (hn : L.Nodup) (h : ∀ x ∈ L, Rch l s x) : L.length ≤ l.length := by
  have := nodup_sub_len hn fun x hx => rch_t (h x hx)
  rwa [List.length_map] at this

/-! ### the code's way: a queue -/
structure Bfs (l : List Ed) (s : ByteArray) (L ws : List ByteArray) : Prop where
  nd : L.Nodup
  rch : ∀ x ∈ L, Rch l s x
  sub : ∀ x ∈ ws, x = s ∨ x ∈ L
  cl : ∀ x, (x = s ∨ x ∈ L) → x ∈ ws ∨ ∀ e ∈ l, e.f = x → e.t ∈ L
theorem Bfs.start (l : List Ed) (s : ByteArray) : Bfs l s [] [s] :=
  ⟨List.nodup_nil, fun x h => (by cases h), fun x h => (by simp at h; exact .inl h), fun x h => by
    rcases h with rfl | h
    · exact .inl (by simp)
    · cases h⟩
theorem Bfs.done {l : List Ed} {s : ByteArray} {L : List ByteArray} (h : Bfs l s L []) : Full l s L :=
  ⟨h.nd, h.rch, fun e he hf => by
    rcases h.cl e.f hf with h1 | h1
    · cases h1
    · exact h1 e he rfl⟩
/-- Midway: service x is looked at, its first i edges are. -/
structure Mid (l : List Ed) (s x : ByteArray) (i : Nat) (L ws : List ByteArray) : Prop where
  nd : L.Nodup
  rch : ∀ y ∈ L, Rch l s y
  sub : ∀ y ∈ ws, y = s ∨ y ∈ L
  cl : ∀ y, (y = s ∨ y ∈ L) → y ∈ ws ∨ (∀ e ∈ l, e.f = y → e.t ∈ L) ∨ y = x
  at_ : x = s ∨ x ∈ L
  lk : ∀ e ∈ l.take i, e.f = x → e.t ∈ L
theorem Bfs.mid {l : List Ed} {s x : ByteArray} {L ws : List ByteArray} (h : Bfs l s L (x :: ws)) : Mid l s x 0 L ws :=
  ⟨h.nd, h.rch, fun y hy => h.sub y (List.mem_cons_of_mem _ hy), fun y hy => (by
    rcases h.cl y hy with h1 | h1
    · rcases List.mem_cons.1 h1 with rfl | h1
      · exact .inr (.inr rfl)
      · exact .inl h1
    · exact .inr (.inl h1)), h.sub x (List.mem_cons_self ..), fun e he => (by simp at he)⟩
theorem Mid.done {l : List Ed} {s x : ByteArray} {L ws : List ByteArray} (h : Mid l s x l.length L ws) : Bfs l s L ws :=
  ⟨h.nd, h.rch, h.sub, fun y hy => by
    rcases h.cl y hy with h1 | h1 | rfl
    · exact .inl h1
    · exact .inr h1
    · exact .inr fun e he hf => h.lk e (by rw [List.take_of_length_le (Nat.le_refl _)]; exact he) hf⟩
theorem Mid.skip {l : List Ed} {s x : ByteArray} {i : Nat} {L ws : List ByteArray} {e : Ed} (h : Mid l s x i L ws) (he : l[i]? = some e) (hs : e.f ≠ x ∨ e.t ∈ L) : Mid l s x (i + 1) L ws :=
  ⟨h.nd, h.rch, h.sub, h.cl, h.at_, fun y hy hf => by
    rw [take_snoc he] at hy
    rcases List.mem_append.1 hy with hy | hy
    · exact h.lk y hy hf
    · rw [List.mem_singleton.1 hy] at hf ⊢
      exact hs.resolve_left (fun hne => hne hf)⟩
theorem Mid.push {l : List Ed} {s x : ByteArray} {i : Nat} {L ws : List ByteArray} {e : Ed} (h : Mid l s x i L ws) (he : l[i]? = some e) (hf : e.f = x) (hn : e.t ∉ L) : Mid l s x (i + 1) (L ++ [e.t]) (ws ++ [e.t]) := by
  have hel := List.mem_of_getElem? he
  refine ⟨?_, fun y hy => ?_, fun y hy => ?_, fun y hy => ?_, h.at_.imp id fun h => List.mem_append_left _ h, fun y hy hyf => ?_⟩
  · rw [List.nodup_append]
    exact ⟨h.nd, by simp, fun a ha b hb e => by simp at hb; subst hb; exact hn (e ▸ ha)⟩
  · rcases List.mem_append.1 hy with hy | hy
    · exact h.rch y hy
    · rw [List.mem_singleton.1 hy]
      rcases h.at_ with h1 | h1
      · exact .one hel (hf.trans h1)
      · exact .more hel (hf ▸ h.rch x h1)
  · rcases List.mem_append.1 hy with hy | hy
    · exact (h.sub y hy).imp id fun h => List.mem_append_left _ h
    · exact .inr (List.mem_append_right _ hy)
  · have hcase : (y = s ∨ y ∈ L) ∨ y = e.t := by
      rcases hy with hy | hy
      · exact .inl (.inl hy)
      · rcases List.mem_append.1 hy with hy | hy
        · exact .inl (.inr hy)
        · exact .inr (List.mem_singleton.1 hy)
    rcases hcase with hy | rfl
    · rcases h.cl y hy with h1 | h1 | h1
      · exact .inl (List.mem_append_left _ h1)
      · exact .inr (.inl fun z hz hzf => List.mem_append_left _ (h1 z hz hzf))
      · exact .inr (.inr h1)
    · exact .inl (List.mem_append_right _ (by simp))
  · rw [take_snoc he] at hy
    rcases List.mem_append.1 hy with hy | hy
    · exact List.mem_append_left _ (h.lk y hy hyf)
    · rw [List.mem_singleton.1 hy]
      exact List.mem_append_right _ (by simp)

/-! ### the document's way: passes -/
/-- Is a text among some? -/
def hasT (x : ByteArray) (L : List ByteArray) : Bool := L.any fun y => decide (y = x)
theorem hasT_iff {x : ByteArray} {L : List ByteArray} : hasT x L = true ↔ x ∈ L := by
  unfold hasT
  rw [List.any_eq_true]
  constructor
  · rintro ⟨y, hy, h⟩
    have := of_decide_eq_true h
    exact this ▸ hy
  · exact fun h => ⟨x, h, decide_eq_true rfl⟩
def pasIf (s : ByteArray) (out : List ByteArray) (e : Ed) : Bool := (decide (e.f = s) || hasT e.f out) && !hasT e.t out
theorem pasIf_iff {s : ByteArray} {out : List ByteArray} {e : Ed} : pasIf s out e = true ↔ (e.f = s ∨ e.f ∈ out) ∧ e.t ∉ out := by
  unfold pasIf
  rw [Bool.and_eq_true, Bool.or_eq_true, decide_eq_true_eq, hasT_iff, Bool.not_eq_true', ← Bool.not_eq_true, hasT_iff]
def pasStep (s : ByteArray) (out : List ByteArray) (e : Ed) : List ByteArray := if pasIf s out e = true then out ++ [e.t] else out
def pasTo (l : List Ed) (s : ByteArray) (out : List ByteArray) (i : Nat) : List ByteArray := (l.take i).foldl (pasStep s) out
theorem pasTo_succ {l : List Ed} {s : ByteArray} {out : List ByteArray} {i : Nat} {e : Ed} (h : l[i]? = some e) : pasTo l s out (i + 1) = pasStep s (pasTo l s out i) e := by
  rw [pasTo, take_snoc h, List.foldl_append]
  rfl
structure Pas (l : List Ed) (s : ByteArray) (out : List ByteArray) : Prop where
  nd : out.Nodup
  rch : ∀ x ∈ out, Rch l s x
theorem Pas.step {l : List Ed} {s : ByteArray} {out : List ByteArray} (h : Pas l s out) {e : Ed} (he : e ∈ l) : Pas l s (pasStep s out e) := by
  unfold pasStep
  split
  · rename_i hc0
    have hc := pasIf_iff.1 hc0
    refine ⟨?_, fun x hx => ?_⟩
    · rw [List.nodup_append]
      exact ⟨h.nd, by simp, fun a ha b hb e => by simp at hb; subst hb; exact hc.2 (e ▸ ha)⟩
    · rcases List.mem_append.1 hx with hx | hx
      · exact h.rch x hx
      · rw [List.mem_singleton.1 hx]
        rcases hc.1 with h1 | h1
        · exact .one he h1
        · exact .more he (h.rch _ h1)
  · exact h
theorem Pas.fold {s : ByteArray} {l0 : List Ed} : ∀ {l : List Ed} {out : List ByteArray}, (∀ e ∈ l, e ∈ l0) → Pas l0 s out → Pas l0 s (l.foldl (pasStep s) out)
  | [], _, _, h => h
  | e :: l, out, hm, h => Pas.fold (l := l) (fun x hx => hm x (List.mem_cons_of_mem _ hx)) (h.step (hm e (List.mem_cons_self ..)))
theorem pasStep_len (s : ByteArray) (out : List ByteArray) (e : Ed) : out.length ≤ (pasStep s out e).length := by
  unfold pasStep
  split
  · simp
  · exact Nat.le_refl _
theorem pasFold_len (s : ByteArray) : ∀ (l : List Ed) (out : List ByteArray), out.length ≤ (l.foldl (pasStep s) out).length
  | [], _ => Nat.le_refl _
  | e :: l, out => Nat.le_trans (pasStep_len s out e) (pasFold_len s l _)
/-- A pass that adds nothing: all is there. -/
theorem pasFold_still {s : ByteArray} : ∀ {l : List Ed} {out : List ByteArray}, (l.foldl (pasStep s) out).length = out.length → l.foldl (pasStep s) out = out ∧ ∀ e ∈ l, (e.f = s ∨ e.f ∈ out) → e.t ∈ out
  | [], out, _ => ⟨rfl, fun e he => by cases he⟩
  | e :: l, out, h => by
    rw [List.foldl_cons] at h ⊢
    by_cases hc : pasIf s out e = true
    · have h1 : pasStep s out e = out ++ [e.t] := if_pos hc
      rw [h1] at h
      have h2 := pasFold_len s l (out ++ [e.t])
      rw [List.length_append, List.length_singleton] at h2
      omega
    · have h1 : pasStep s out e = out := if_neg hc
      rw [h1] at h ⊢
      obtain ⟨h2, h3⟩ := pasFold_still h
      refine ⟨h2, fun x hx hf => ?_⟩
      rcases List.mem_cons.1 hx with rfl | hx
      · exact Classical.byContradiction fun hn => hc (pasIf_iff.2 ⟨hf, hn⟩)
      · exact h3 x hx hf
/-- k passes. -/
def pasN (l : List Ed) (s : ByteArray) : Nat → List ByteArray
  | 0 => []
  | k + 1 => l.foldl (pasStep s) (pasN l s k)
theorem pasN_pas (l : List Ed) (s : ByteArray) : ∀ k, Pas l s (pasN l s k)
  | 0 => ⟨List.nodup_nil, fun x h => by cases h⟩
  | k + 1 => Pas.fold (fun _ h => h) (pasN_pas l s k)
theorem pasN_or (l : List Ed) (s : ByteArray) : ∀ k, (∀ e ∈ l, (e.f = s ∨ e.f ∈ pasN l s k) → e.t ∈ pasN l s k) ∨ k ≤ (pasN l s k).length
  | 0 => .inr (Nat.zero_le _)
  | k + 1 => by
    have hlen := pasFold_len s l (pasN l s k)
    by_cases he : (l.foldl (pasStep s) (pasN l s k)).length = (pasN l s k).length
    · obtain ⟨h1, h2⟩ := pasFold_still he
      left
      rw [pasN, h1]
      exact h2
    · rcases pasN_or l s k with h | h
      · exfalso
        have hst : l.foldl (pasStep s) (pasN l s k) = pasN l s k := by
          have : ∀ (m : List Ed), (∀ e ∈ m, e ∈ l) → m.foldl (pasStep s) (pasN l s k) = pasN l s k := by
            intro m
            induction m with
            | nil => intro _; rfl
            | cons e m ih =>
              intro hm
              have h1 : pasStep s (pasN l s k) e = pasN l s k := if_neg fun hc => (pasIf_iff.1 hc).2 (h e (hm e (List.mem_cons_self ..)) (pasIf_iff.1 hc).1)
              rw [List.foldl_cons, h1]
              exact ih fun x hx => hm x (List.mem_cons_of_mem _ hx)
          exact this l fun _ h => h
        exact he (by rw [hst])
      · right
        rw [pasN]
        omega
theorem pasN_full (l : List Ed) (s : ByteArray) : Full l s (pasN l s (l.length + 1)) := by
  have hp := pasN_pas l s (l.length + 1)
  refine ⟨hp.nd, hp.rch, ?_⟩
  rcases pasN_or l s (l.length + 1) with h | h
  · exact h
  · have := Rch.len hp.nd hp.rch
    omega
end Go.Proofs.Ythaiplhjekkooaa

/- Rows of edges of the call's own: append; an edge laid into one. (Turned out of SoR.) -/
namespace Go.Proofs.Ythaiplhjekkooaa
open Go.RowKit

theorem edinfo : (Try.prog.info? 47).map (fun i => (i.zero, i.size, i.bytes)) = some (some (.agg #[.int .u64 0, .string ⟨#[]⟩, .string ⟨#[]⟩, .int .u64 0]), 4, 48) := by kernel_rfl
theorem eds_append (a b : List Ed) : eds (a ++ b) = eds a ++ eds b := by simp [flatR]
theorem eds_one (l : List Ed) : ∀ u ∈ eds l, u.oneCell' = true := flatR_one edC_one l
/-- append of edges. -/
theorem wpList_appD (w : World) {ops : Array Oper} {rest : List Oper} {o : Oper} {a : Act} {Q : Exit → Act → World → Prop} (hgd : o.guard = none) (s x : Operand)
    (ho : o.op = .call { callee := .builtin .append, args := #[s, x], argTypes := #[25, 25] })
    (base : Nat) (v : Value) (n : Nat) (l : List Ed) (hs : a.eval s = v) (hown : w.ownsRow base 47 4 v n (eds l))
    (B : Nat) (A : Option Addr) (m c : Nat) (news : List Ed) (hx : a.eval x = .slice A m c) (hl : news.length = m) (hr : RbD w B A news)
    (hbytes : n + m ≤ 1048576) (hbase : base ≤ w.heap.size)
    (h : ∀ A' c' w', App base 47 4 w v w' (.slice A' (n + m) c') (n + m) (eds (l ++ news)) → (A' = none → v = .slice none 0 0 ∧ m = 0) → wpList Try.prog ops Q rest (a.put o.dst (.slice A' (n + m) c')) w') :
    wpList Try.prog ops Q (o :: rest) a w := by
  obtain ⟨i0, hi0, hz0, hz1, hz2⟩ := info_parts edinfo
  refine wpList_app w hgd s x _ ho base 47 i0 _ 4 48 Try.underlying25 hi0 hz0 hz1 hz2 rfl (by omega) v n (eds l) hs hown B A m c (eds news) hx (by rw [eds_length]; omega) hr (eds_one news) (by simp only [maxLen]; omega) (by omega) hbase ?_
  intro A' c' w' h1 h2 h3 h4
  rw [← eds_append] at h1
  exact h A' c' w' ((App.refl hown).step h1 h2 h3) h4
theorem run_appD (w : World) (base : Nat) (v : Value) (n : Nat) (l : List Ed) (hown : w.ownsRow base 47 4 v n (eds l))
    (B : Nat) (A : Option Addr) (m c : Nat) (news : List Ed) (hl : news.length = m) (hr : RbD w B A news) (hbytes : n + m ≤ 1048576) (hbase : base ≤ w.heap.size) :
    ∃ A' c' w', (appK #[25, 25] 25 #[v, .slice A m c]).run Try.prog w = .ok (.slice A' (n + m) c') w' ∧ App base 47 4 w v w' (.slice A' (n + m) c') (n + m) (eds (l ++ news)) := by
  obtain ⟨i0, hi0, hz0, hz1, hz2⟩ := info_parts edinfo
  obtain ⟨v', w', hrun, h2, h3, h4, ⟨A', c', rfl⟩, h6⟩ := run_app (P := Try.prog) w base 25 25 47 i0 _ 4 48 Try.underlying25 hi0 hz0 hz1 hz2 rfl (by omega) v n (eds l) hown B A m c (eds news) (by rw [eds_length, hl]) hr (eds_one news) (by simp only [maxLen]; omega) (by omega) hbase
  rw [← eds_append] at h2
  exact ⟨A', c', w', hrun, (App.refl hown).step h2 h3 h4⟩
theorem eds_take (l : List Ed) (k : Nat) : (eds l).take (k * 4) = eds (l.take k) := flatR_take edC_length l k
theorem RbD.take {w : World} {B : Nat} {A : Option Addr} {l : List Ed} (h : RbD w B A l) (k : Nat) : RbD w B A (l.take k) := by
  have := Rd.take h (k * 4)
  rwa [eds_take] at this
theorem RbD.drop {w : World} {B k cap : Nat} {A : Option Addr} {l : List Ed} (h : RbD w B A l) (hc : l.length ≤ cap) : RbD w B (cutA A cap k 4) (l.drop k) := by
  unfold cutA
  show Rd _ _ _ (eds (l.drop k))
  rw [show eds (l.drop k) = (eds l).drop (k * 4) from (flatR_drop edC_length l k).symm]
  have h1 := Rd.drop (k := k * 4) (cap := cap * 4) h (by rw [eds_length]; omega)
  by_cases hk : cap = k
  · rw [if_pos hk]
    rwa [if_pos (by omega)] at h1
  · rw [if_neg hk]
    rwa [if_neg (by omega)] at h1
theorem own_ltD {w : World} {base n size : Nat} {e : TypeId} {v : Value} {xs : List Value} (h : w.ownsRow base e size v n xs) : ∀ k, v.ownBlock = some k → k < w.heap.size ∧ base ≤ k := fun k hk => by
  rcases h.2 with ⟨h1, _⟩ | ⟨g, cap, cur, h1, hbase, hb, _⟩
  · rw [h1] at hk
    cases hk
  · rw [h1] at hk
    have e := Option.some.inj hk
    simp only at e
    subst e
    exact ⟨(Array.getElem?_eq_some_iff.1 hb).1, hbase⟩
/-- One edge laid into a row at k, what lay behind it being put back. -/
theorem insRowD {base lo j k c c3 : Nat} {A A3 : Option Addr} {l : List Ed} {e : Ed} (W4 : World) (hown : W4.ownsRow base 47 4 (.slice A j c) j (eds l)) (hl : l.length = j) (hk : k ≤ j) (hj : j ≤ 100000)
    (hA3 : W4.ownsRow lo 47 4 (.slice A3 (j - k) c3) (j - k) (eds (l.drop k))) (hne : ∀ a, A3 = some a → (Value.slice A j c).ownBlock ≠ some a.block) (hbase : base ≤ W4.heap.size) :
    ∃ A5 c5 w5 A6 c6 w6, (appK #[25, 25] 25 #[.slice A k c, .slice (some ⟨W4.heap.size, 0, none⟩) 1 1]).run Try.prog (W4.alloc (.cells (edA e) 47)) = .ok (.slice A5 (k + 1) c5) w5 ∧
      (appK #[25, 25] 25 #[.slice A5 (k + 1) c5, .slice A3 (j - k) c3]).run Try.prog w5 = .ok (.slice A6 (j + 1) c6) w6 ∧ w6.ownsRow base 47 4 (.slice A6 (j + 1) c6) (j + 1) (eds (l.take k ++ e :: l.drop k)) ∧ Below base W4 w6 ∧
      ∀ q, q < W4.heap.size → (Value.slice A j c).ownBlock ≠ some q → w5.heap[q]? = W4.heap[q]? ∧ w6.heap[q]? = W4.heap[q]? := by
  have hb5 : Below W4.heap.size W4 (W4.alloc (.cells (edA e) 47)) := (Below.refl _ W4).alloc (Nat.le_refl _) _
  have hrd : RbD (W4.alloc (.cells (edA e) 47)) (W4.heap.size + 1) (some ⟨W4.heap.size, 0, none⟩) [e] := by
    have e1 : eds [e] = (edA e).toList := by simp [flatR, edC]
    show Rd _ _ _ (eds [e])
    rw [e1]
    exact Rd.lit W4 (edA e) 47
  have hsz : (W4.alloc (.cells (edA e) 47)).heap.size = W4.heap.size + 1 := by simp
  obtain ⟨W5, hW5⟩ : ∃ W5, W4.alloc (.cells (edA e) 47) = W5 := ⟨_, rfl⟩
  rw [hW5] at hb5 hrd hsz ⊢
  have hown5 := ((App.refl hown).later hb5).own
  have hob : (Value.slice A k c).ownBlock = (Value.slice A j c).ownBlock := by cases A <;> rfl
  have hlt := own_ltD hown5
  have hbW : base ≤ W5.heap.size := Nat.le_trans hbase hb5.size
  have htk := own_take hown5 hk
  rw [eds_take] at htk
  obtain ⟨A5, c5, w5, hrun5, hap5⟩ := run_appD W5 base (.slice A k c) k (l.take k) htk _ _ 1 1 [e] rfl hrd (by omega) hbW
  have hgr5 := hap5.grown
  rw [hob] at hgr5
  have hA5 := Rd.grownS (Rd.of_own ((App.refl hA3).later hb5).own) hgr5 hne
  have hl2 : (l.drop k).length = j - k := by rw [List.length_drop, hl]
  obtain ⟨A6, c6, w6, hrun6, hap6⟩ := run_appD w5 base (.slice A5 (k + 1) c5) (k + 1) (l.take k ++ [e]) hap5.own _ A3 (j - k) c3 (l.drop k) hl2 hA5 (by omega) (Nat.le_trans hbW hap5.heap)
  rw [show k + 1 + (j - k) = j + 1 from by omega, List.append_assoc, List.singleton_append] at hap6
  rw [show k + 1 + (j - k) = j + 1 from by omega] at hrun6
  have hkp : ∀ q, q < W4.heap.size → (Value.slice A j c).ownBlock ≠ some q → w5.heap[q]? = W4.heap[q]? ∧ w6.heap[q]? = W4.heap[q]? := fun q hq hqn => by
    have e1 := hb5.block q hq
    have e2 := hgr5.block q (by omega) (Ne.symm hqn)
    have e3 := hap6.grown.block q (by have := hap5.heap; omega) (fun e => by
      rcases hap5.block with hb | ⟨r, hb, hr⟩
      · rw [hb, hob] at e
        exact hqn e.symm
      · rw [hb] at e
        have := Option.some.inj e
        omega)
    exact ⟨e2.trans e1, e3.trans (e2.trans e1)⟩
  refine ⟨A5, c5, w5, A6, c6, w6, hrun5, hrun6, hap6.own, ?_, hkp⟩
  have h5 : Below base W5 w5 := hap5.below hbW (fun q hq => (hlt q (by rw [← hob]; exact hq)).2)
  have h6 : Below base w5 w6 := hap6.below (Nat.le_trans hbW hap5.heap) (fun q hq => by
    rcases hap5.block with hb | ⟨r, hb, hr⟩
    · rw [hb, hob] at hq
      exact (hlt q hq).2
    · rw [hb] at hq
      have := Option.some.inj hq
      omega)
  exact ((hb5.mono hbase).trans h5).trans h6
/-- Where an edge is put. -/
def addPos (x : Ed) : List Ed → Nat
  | [] => 0
  | a :: l => if edLt a x = true then addPos x l + 1 else 0
/-- The document's add. -/
def addE (x : Ed) (l : List Ed) : List Ed × Bool :=
  match l[addPos x l]? with
  | some y => if edLt x y = true then (l.take (addPos x l) ++ x :: l.drop (addPos x l), decide (x.n ≤ 4611686018427387904))
    else if 4611686018427387904 < x.n ∨ 4611686018427387904 - x.n < y.n then (l, false) else (l.set (addPos x l) ⟨y.b, y.f, y.t, y.n + x.n⟩, true)
  | none => (l.take (addPos x l) ++ x :: l.drop (addPos x l), decide (x.n ≤ 4611686018427387904))
theorem addPos_at {x : Ed} : ∀ {l : List Ed} {k : Nat}, k ≤ l.length → (∀ a ∈ l.take k, edLt a x = true) → (∀ a, l[k]? = some a → edLt a x = false) → addPos x l = k
  | [], k, h, _, _ => by simp at h; rw [h]; rfl
  | a :: l, 0, _, _, h2 => by rw [addPos, if_neg (by rw [h2 a rfl]; simp)]
  | a :: l, k + 1, h, h1, h2 => by
    rw [addPos, if_pos (h1 a (by simp)), addPos_at (l := l) (k := k) (by simpa using h) (fun b hb => h1 b (by simp [hb])) (fun b hb => h2 b (by simpa using hb))]
/-- What add hands back: the row, and whether it could. -/
def AddPost (base : Nat) (w : World) (r : List Ed × Bool) (e : Ending) (w' : World) : Prop :=
  ∃ A' c' n', e = .returned (.tuple #[.slice A' n' c', .bool r.2]) ∧ r.1.length = n' ∧ w'.ownsRow base 47 4 (.slice A' n' c') n' (eds r.1) ∧ Below base w w'
end Go.Proofs.Ythaiplhjekkooaa

/- Edges: the document's add. -/
namespace Go.Proofs.Ythaiplhjekkooaa
open Go.RowKit
theorem loadEd_shutD (a : Addr) : loadVar 47 a = loadK 47 a := rfl
attribute [local go_sem ↓] loadEd_shutD
attribute [local go_sem ↓] appK_shut
attribute [local go_sem ↓] sliced_s
attribute [local go_sem ↓ high] sliced_s0

theorem flatR_setD {α : Type} {f : α → List Value} {k : Nat} (hf : ∀ x, (f x).length = k) {x x' : α} {j : Nat} {u : Value} (hj : j < k) (hx : f x' = (f x).set j u) :
    ∀ {l : List α} {i : Nat}, l[i]? = some x → (flatR f l).set (i * k + j) u = flatR f (l.set i x')
  | [], i, h => by simp at h
  | a :: l, 0, h => by
    simp at h
    subst h
    have e : flatR f (a :: l) = f a ++ flatR f l := rfl
    have e2 : flatR f ((a :: l).set 0 x') = f x' ++ flatR f l := rfl
    rw [e, e2, hx, Nat.zero_mul, Nat.zero_add, List.set_append_left _ _ (by rw [hf]; exact hj)]
  | a :: l, i + 1, h => by
    have ih := flatR_setD hf hj hx (l := l) (i := i) (by simpa using h)
    have e : flatR f (a :: l) = f a ++ flatR f l := rfl
    have e2 : flatR f ((a :: l).set (i + 1) x') = f a ++ flatR f (l.set i x') := rfl
    have hk : (i + 1) * k = i * k + k := Nat.succ_mul _ _
    rw [e, e2, ← ih, List.set_append_right _ _ (by rw [hf]; omega), hf, show (i + 1) * k + j - k = i * k + j from by omega]
set_option maxRecDepth 100000 in
set_option maxHeartbeats 4000000 in
theorem rDeAdd {base n c : Nat} {A : Option Addr} (l : List Ed) (x : Ed) (w : World) (hown : w.ownsRow base 47 4 (.slice A n c) n (eds l)) (hl : l.length = n) (hnl : n ≤ 100000) (hbase : base ≤ w.heap.size) (hx : x.n < 18446744073709551616) (hy : ∀ y ∈ l, y.n < 18446744073709551616) :
    Calls Try.prog 38 #[.slice A n c, edV x] w (AddPost base w (addE x l)) := by
  have hal : Below w.heap.size w (w.alloc (.cells (edA x) 47)) := (Below.refl _ w).alloc (Nat.le_refl _) _
  have bk := Bk.new w 47 (edA x)
  obtain ⟨w1, hw1⟩ : ∃ w1, w.alloc (.cells (edA x) 47) = w1 := ⟨_, rfl⟩
  obtain ⟨g, hg⟩ : ∃ g, w.heap.size = g := ⟨_, rfl⟩
  rw [hw1] at hal bk
  rw [hg] at bk
  have hgo : (Value.slice A n c).ownBlock ≠ some g := fun e => by have := (own_ltD hown g e).1; omega
  have own1 := ((App.refl hown).later hal).own
  have hcap : n ≤ c := by
    rcases hown.2 with ⟨h1, h2⟩ | ⟨q, cap, cur, h1, _, _, h3, _⟩
    · omega
    · injection h1 with _ _ h5
      omega
  obtain ⟨R, hR⟩ : ∃ R, addE x l = R := ⟨_, rfl⟩
  rw [hR]
  have HW := Lib.hid hw1
  have HG := Lib.hid hg
  have HR := Lib.hid hR
  have HN := Lib.hid hl
  have HAL := Lib.hid hal
  have HY := Lib.hid hy
  have hbg : base ≤ g := by omega
  clear hw1 hg hR hl hal hown hy
  go_enter Try.func38, Try.ntmps38
  go_upto_region 1 with fail
  rw [HW.out, HG.out]
  go_wp2_with fail
  go_loopw [6] (fun i_ wr => ∃ k : Nat, k ≤ n ∧ i_ = .int .i64 k ∧ Hid (∀ a ∈ l.take k, edLt a x = true) ∧ Below w1.heap.size w1 wr) (fun i_ _ => n - (intOf i_).toNat)
  case atStart => exact ⟨0, by omega, rfl, Lib.hid (fun a ha => by simp at ha), Below.refl _ _⟩
  case round =>
    obtain ⟨k, hk, rfl, HALL, hbr⟩ := hrel
    by_cases hlt : k < n
    · have hlt' : (k : Int) < (n : Int) := by omega
      obtain ⟨a, ha⟩ : ∃ a, l[k]? = some a := ⟨_, List.getElem?_eq_getElem (by rw [HN.out]; exact hlt)⟩
      have hbd := below_drewN hbr 1
      have ownd := ((App.refl own1).later hbd).own
      have hA : ∃ ga, A = some ⟨ga, 0, none⟩ := by
        rcases own1.2 with ⟨-, h0⟩ | ⟨q, cap, cur, h1, -⟩
        · omega
        · injection h1 with h2
          exact ⟨q, h2⟩
      obtain ⟨ga, rfl⟩ := hA
      have HL : Hid (∀ W, Below w1.heap.size w1 W → (loadK 47 ⟨ga, k * 4, none⟩).run Try.prog W = .ok (edV a) W ∧ (loadK 47 ⟨g, 0, none⟩).run Try.prog W = .ok (edV x) W) := Lib.hid fun W hW => by
        obtain ⟨b', o', e', -, hc'⟩ := RbD.at (Rd.of_own ((App.refl own1).later hW).own) ha
        cases e'
        have h1 := loadK_ed hc'
        rw [Nat.zero_add] at h1
        exact ⟨h1, loadK_edB (bk.below hW bk.lt)⟩
      obtain ⟨la, lx⟩ := HL.out _ hbd
      have hcb := rDeBefore a x wr.drew
      obtain ⟨r, hr⟩ : ∃ r, edLt a x = r := ⟨_, rfl⟩
      rw [hr] at hcb
      have HRR := Lib.hid hr
      have HC := Lib.hid hcb
      have HA := Lib.hid ha
      clear hr hcb ha ownd
      go_wp2_with fail
      go_region_held3 (fun w' => (loadK 47 ⟨ga, k * 4, none⟩).run Try.prog w' = .ok (edV a) w' ∧ (loadK 47 ⟨g, 0, none⟩).run Try.prog w' = .ok (edV x) w')
        (first | exact ⟨la, lx⟩ | exact ⟨la3, lx3⟩)
        (first
          | (go_at_call 48
             refine HC.out.mono ?_
             rintro en w3 ⟨rfl, hb3⟩
             have hb03 := hbd.trans (hb3.mono hbd.size)
             obtain ⟨la3, lx3⟩ := HL.out _ hb03)
          | fail)
      cases r with
      | true =>
        go_wp2_with fail
        exact ⟨⟨k + 1, by omega, by go_num, Lib.hid (fun b hb => by
          rw [take_snoc HA.out] at hb
          rcases List.mem_append.1 hb with hb | hb
          · exact HALL.out b hb
          · rw [List.mem_singleton.1 hb, HRR.out]), hb03⟩, by simp only [intOf]; omega⟩
      | false =>
        have hps : addPos x l = k := addPos_at (by rw [HN.out]; exact hk) HALL.out (fun b hb => by
          rw [HA.out] at hb
          cases hb
          exact HRR.out)
        have HPS := Lib.hid hps
        clear hps la lx la3 lx3 HC hbd hb3 hbr HALL HRR
        obtain ⟨wQ, hwQ⟩ : ∃ wQ, wQ = w3 := ⟨_, rfl⟩
        subst hwQ
        have hbd := below_drewN hb03 1
        obtain ⟨la, lx⟩ := HL.out _ hbd
        have hcb := rDeBefore x a wQ.drew
        obtain ⟨r2, hr2⟩ : ∃ r, edLt x a = r := ⟨_, rfl⟩
        rw [hr2] at hcb
        have HR2 := Lib.hid hr2
        have HC := Lib.hid hcb
        clear hr2 hcb
        go_wp2_with fail
        go_region_held3 (fun w' => (loadK 47 ⟨ga, k * 4, none⟩).run Try.prog w' = .ok (edV a) w' ∧ (loadK 47 ⟨g, 0, none⟩).run Try.prog w' = .ok (edV x) w')
          (first | exact ⟨la, lx⟩ | exact ⟨la3, lx3⟩)
          (first
            | (go_at_call 48
               refine HC.out.mono ?_
               rintro en w4 ⟨rfl, hb4⟩
               have hb04 := hbd.trans (hb4.mono hbd.size)
               obtain ⟨la3, lx3⟩ := HL.out _ hb04)
            | fail)
        clear la lx la3 lx3 HC hbd hb4 hb03
        cases r2 with
        | true =>
          have hRR : R = (l.take k ++ x :: l.drop k, decide (x.n ≤ 4611686018427387904)) := by
            rw [← HR.out, addE, HPS.out, HA.out]
            simp only [HR2.out, if_true]
          have HRR := Lib.hid hRR
          clear hRR HPS HA HR HR2 HL
          obtain ⟨WX, hWX⟩ : ∃ WX, WX = w4 := ⟨_, rfl⟩
          subst hWX
          have HBW := Lib.hid hb04
          clear hb04
          have hrbW := Rd.of_own ((App.refl own1).later HBW.out).own
          have hkc : (k : Int) ≤ (c : Int) := by omega
          have hkn : (k : Int) ≤ (n : Int) := by omega
          have hbs : base ≤ WX.heap.size := by have h1 := HAL.out.size; have h2 := HBW.out.size; omega
          go_wp2_with (at_builtin; go_loud (refine wpList_appD _ rfl (.tmp 63) (.tmp 66) rfl WX.heap.size _ 0 [] rfl (World.ownsRow_lit WX #[] 0 (Nat.le_refl _) (by simp [maxLen]) rfl) WX.heap.size _ (n - k) _ (l.drop k) rfl (by rw [List.length_drop, HN.out]) (Rd.alloc (RbD.drop (cap := c) hrbW (by rw [HN.out]; exact hcap)) (Nat.le_refl _) _) (by omega) (by simp) ?_))
          intro A3 c3 w3 hap _
          have hap1 := hap.fresh1
          have hb3 := hap1.below0
          have hlo := hap1.lo
          have hb13 := HBW.out.trans (hb3.mono HBW.out.size)
          have hb13d := below_drewN hb13 1
          have ownD := ((App.refl own1).later hb13d).own
          have bkD := bk.below hb13d bk.lt
          have hne3 : ∀ q, A3 = some q → (Value.slice (some ⟨ga, 0, none⟩) n c).ownBlock ≠ some q.block := fun q hq e1 => by
            have h1 := (own_ltD own1 _ e1).1
            have h2 := (hlo q hq).1
            have h3 := HBW.out.size
            omega
          obtain ⟨A5, c5, w5, A6, c6, w6, hrun5, hrun6, hown6, hb6, hkp⟩ := insRowD (e := x) (w3.drewN 1) ownD HN.out hk hnl hap1.drew.own hne3 (Nat.le_trans hbs hb3.size)
          have hkg := hkp g (by have := bkD.lt; exact this) hgo
          have F4 : (loadK 47 ⟨g, 0, none⟩).run Try.prog w3.drew = .ok (edV x) w3.drew ∧ w3.drew.cell? ⟨g, 3, none⟩ = some (.int .u64 x.n) := ⟨loadK_edB bkD, bkD.cell 3⟩
          have FA : Hid (∀ ob, (loadK 47 ⟨g, 0, none⟩).run Try.prog (w3.alloc ob).drew = .ok (edV x) (w3.alloc ob).drew ∧ (w3.alloc ob).drew.cell? ⟨g, 3, none⟩ = some (.int .u64 x.n)) := Lib.hid fun ob => by
            have hq : Bk (w3.alloc ob).drew g 47 (edA x) := bkD.alloc ob
            exact ⟨loadK_edB hq, hq.cell 3⟩
          have bk5 : Bk w5 g 47 (edA x) := hkg.1.trans bkD
          have bk6 : Bk w6 g 47 (edA x) := hkg.2.trans bkD
          have F5 : (loadK 47 ⟨g, 0, none⟩).run Try.prog w5 = .ok (edV x) w5 ∧ w5.cell? ⟨g, 3, none⟩ = some (.int .u64 x.n) := ⟨loadK_edB bk5, bk5.cell 3⟩
          have F6 : (loadK 47 ⟨g, 0, none⟩).run Try.prog w6 = .ok (edV x) w6 ∧ w6.cell? ⟨g, 3, none⟩ = some (.int .u64 x.n) := ⟨loadK_edB bk6, bk6.cell 3⟩
          have hrun5' : (appK #[25, 25] 25 #[.slice (some ⟨ga, 0, none⟩) k c, .slice (some ⟨w3.heap.size, 0, none⟩) 1 1]).run Try.prog (w3.alloc (.cells (edA x) 47)).drew = .ok (.slice A5 (k + 1) c5) w5 := hrun5
          have HO6 := Lib.hid hown6
          have HB6 := Lib.hid hb6
          have HB13 := Lib.hid hb13d
          clear hkp hkg hown6 hb6 bk5 bk6 hap hap1 hb3 hlo ownD bkD hne3 hrbW hrun5 hb13 hb13d
          go_wp2_with fail
          go_region_held3 (fun w' => (loadK 47 ⟨g, 0, none⟩).run Try.prog w' = .ok (edV x) w' ∧ w'.cell? ⟨g, 3, none⟩ = some (.int .u64 x.n))
            (first | exact F4 | exact FA.out _ | exact F5 | exact F6) (fail)
          all_goals go_wp2_with fail
          all_goals go_ret2
          all_goals
            rw [HRR.out]
            have hbb : Below base w w6 := (HAL.out.mono (by omega)).trans ((HB13.out.mono (by have := HAL.out.size; omega)).trans HB6.out)
            have hdn : decide ((x.n : Int) ≤ 4611686018427387904) = decide (x.n ≤ 4611686018427387904) := by
              by_cases h : x.n ≤ 4611686018427387904
              · rw [decide_eq_true h, decide_eq_true (show (x.n : Int) ≤ 4611686018427387904 by omega)]
              · rw [decide_eq_false h, decide_eq_false (show ¬ (x.n : Int) ≤ 4611686018427387904 by omega)]
            exact ⟨A6, c6, n + 1, (by rw [← hdn]; rfl), by simp only [List.length_append, List.length_cons, List.length_take, List.length_drop, HN.out]; omega, HO6.out, hbb⟩
        | false =>
          have hc3a : ∀ W, Below w1.heap.size w1 W → W.cell? ⟨ga, k * 4 + 3, none⟩ = some (.int .u64 a.n) ∧ W.cell? ⟨g, 3, none⟩ = some (.int .u64 x.n) ∧ W.frozen? ⟨ga, k * 4 + 3, none⟩ = false := fun W hW => by
            have ow := ((App.refl own1).later hW).own
            obtain ⟨b', o', e', -, hc'⟩ := RbD.at (Rd.of_own ow) HA.out
            cases e'
            have h1 := hc' 3 (by omega)
            rw [Nat.zero_add] at h1
            exact ⟨h1, (bk.below hW bk.lt).cell 3, ow.frozenAt _⟩
          have HC3 := Lib.hid hc3a
          have han := HY.out a (List.mem_of_getElem? HA.out)
          obtain ⟨na, hna⟩ : ∃ na, a.n = na := ⟨_, rfl⟩
          obtain ⟨nx, hnx⟩ : ∃ nx, x.n = nx := ⟨_, rfl⟩
          obtain ⟨ca, cx, fa⟩ := HC3.out w4 hb04
          rw [hna] at ca han
          rw [hnx] at cx hx
          have hRR : R = if 4611686018427387904 < nx ∨ 4611686018427387904 - nx < na then (l, false) else (l.set k ⟨a.b, a.f, a.t, na + nx⟩, true) := by
            rw [← HR.out, addE, HPS.out, HA.out]
            simp only [HR2.out, Bool.false_eq_true, if_false, hna, hnx]
          have HRR := Lib.hid hRR
          have HNA := Lib.hid hna
          have HNX := Lib.hid hnx
          clear hRR HPS HR HR2 HL hc3a hna hnx
          by_cases h1 : 4611686018427387904 < nx
          · have d1 : decide ((4611686018427387904 : Int) < (nx : Int)) = true := by simp; omega
            have d1' : (4611686018427387904 : Int) < (nx : Int) := by omega
            have hre := HRR.out
            rw [if_pos (.inl h1)] at hre
            subst hre
            go_wp2_with fail
            go_quiet (fail)
            go_wp2_with fail
            go_ret2
            have hbq := below_drewN hb04 nq
            exact ⟨some ⟨ga, 0, none⟩, c, n, rfl, HN.out, ((App.refl own1).later hbq).own, (HAL.out.mono (by omega)).trans (hbq.mono (by have := HAL.out.size; omega))⟩
          have d1 : decide ((4611686018427387904 : Int) < (nx : Int)) = false := by simp; omega
          have d1' : ¬ (4611686018427387904 : Int) < (nx : Int) := by omega
          obtain ⟨mx, hmx⟩ : ∃ mx, 4611686018427387904 - nx = mx := ⟨_, rfl⟩
          have hw1 : IntKind.u64.wrap (4611686018427387904 - (nx : Int)) = (mx : Int) := by
            rw [show (4611686018427387904 : Int) - (nx : Int) = (mx : Int) from by omega]
            exact IntWalk.u64_in _ ⟨by omega, by omega⟩
          rw [hmx] at HRR
          by_cases h2 : mx < na
          · have d2 : decide ((mx : Int) < (na : Int)) = true := by simp; omega
            have d2' : (mx : Int) < (na : Int) := by omega
            have hre := HRR.out
            rw [if_pos (.inr h2)] at hre
            subst hre
            go_wp2_with fail
            go_quiet (fail)
            go_wp2_with fail
            go_ret2
            have hbq := below_drewN hb04 nq
            exact ⟨some ⟨ga, 0, none⟩, c, n, rfl, HN.out, ((App.refl own1).later hbq).own, (HAL.out.mono (by omega)).trans (hbq.mono (by have := HAL.out.size; omega))⟩
          · have d2 : decide ((mx : Int) < (na : Int)) = false := by simp; omega
            have d2' : ¬ (mx : Int) < (na : Int) := by omega
            have hre := HRR.out
            rw [if_neg (by omega)] at hre
            subst hre
            have hw2 : IntKind.u64.wrap ((na : Int) + (nx : Int)) = (na : Int) + (nx : Int) := IntWalk.u64_in _ ⟨by omega, by omega⟩
            go_wp2_with fail
            go_quiet (fail)
            have hbq := below_drewN hb04 nq
            obtain ⟨WQ, hWQ⟩ : ∃ WQ, w4.drewN nq = WQ := ⟨_, rfl⟩
            rw [hWQ] at hbq ⊢
            clear ca cx fa hWQ hb04
            have hbq1 := below_drewN hbq 1
            have hq0 := HC3.out WQ hbq
            have hq1 := HC3.out (WQ.drewN 1) hbq1
            have HQ1 := Lib.hid hq1
            obtain ⟨ca, cx, fa⟩ := hq0
            rw [HNA.out] at ca
            rw [HNX.out] at cx
            go_wp2_with fail
            go_still_tail 12, (by kernel_rfl)
            change wpList _ _ _ _ _ WQ.drew
            clear ca cx fa
            have ca : WQ.drew.cell? ⟨ga, k * 4 + 3, none⟩ = some (.int .u64 a.n) := HQ1.out.1
            have fa : WQ.drew.frozen? ⟨ga, k * 4 + 3, none⟩ = false := HQ1.out.2.2
            go_wp2_with fail
            go_ret2
            have ow := ((App.refl own1).later hbq1).own
            obtain ⟨st1, st2⟩ := ow.stored (k * 4 + 3) (.int .u64 ((na + nx : Nat) : Int))
            have hset : (eds l).set (k * 4 + 3) (.int .u64 ((na + nx : Nat) : Int)) = eds (l.set k ⟨a.b, a.f, a.t, na + nx⟩) := flatR_setD edC_length (by omega) rfl HA.out
            rw [hset] at st1
            have hnn : ((na : Int) + (nx : Int)) = ((na + nx : Nat) : Int) := by omega
            have hgb : base ≤ ga := (own_ltD own1 ga rfl).2
            rw [hnn]
            exact ⟨some ⟨ga, 0, none⟩, c, n, rfl, by rw [List.length_set, HN.out], st1, (HAL.out.mono (by omega)).trans ((hbq1.mono (by have := HAL.out.size; omega)).setCell (p := ⟨ga, k * 4 + 3, none⟩) hgb _)⟩
    · have hkn0 : k = n := by omega
      have hlt' : decide ((k : Int) < (n : Int)) = false := by simp; omega
      have hps : addPos x l = k := addPos_at (by rw [HN.out]; exact hk) HALL.out (fun b hb => by
        rw [List.getElem?_eq_none (by rw [HN.out]; omega)] at hb
        cases hb)
      have hRR : R = (l.take k ++ x :: l.drop k, decide (x.n ≤ 4611686018427387904)) := by
        have hnone : l[k]? = none := List.getElem?_eq_none (by rw [HN.out]; omega)
        rw [← HR.out, addE, hps, hnone]
      have HRR := Lib.hid hRR
      clear hRR hps HR HALL
      go_wp2_with fail
      go_quiet (fail)
      have hb0 := below_drewN hbr nq
      obtain ⟨W0, hW0⟩ : ∃ W0, wr.drewN nq = W0 := ⟨_, rfl⟩
      rw [hW0] at hb0 ⊢
      clear hW0 hbr
      go_wp2_with fail
      go_quiet (fail)
      have hb00 := below_drewN hb0 nq
      obtain ⟨WX, hWX⟩ : ∃ WX, W0.drewN nq = WX := ⟨_, rfl⟩
      rw [hWX] at hb00 ⊢
      clear hWX hb0 hkn0 hlt hlt'
      have HBW := Lib.hid hb00
      clear hb00
      have hrbW := Rd.of_own ((App.refl own1).later HBW.out).own
      have hkc : (k : Int) ≤ (c : Int) := by omega
      have hkn : (k : Int) ≤ (n : Int) := by omega
      have hbs : base ≤ WX.heap.size := by have h1 := HAL.out.size; have h2 := HBW.out.size; omega
      go_wp2_with (at_builtin; go_loud (refine wpList_appD _ rfl (.tmp 63) (.tmp 66) rfl WX.heap.size _ 0 [] rfl (World.ownsRow_lit WX #[] 0 (Nat.le_refl _) (by simp [maxLen]) rfl) WX.heap.size _ (n - k) _ (l.drop k) rfl (by rw [List.length_drop, HN.out]) (Rd.alloc (RbD.drop (cap := c) hrbW (by rw [HN.out]; exact hcap)) (Nat.le_refl _) _) (by omega) (by simp) ?_))
      intro A3 c3 w3 hap _
      have hap1 := hap.fresh1
      have hb3 := hap1.below0
      have hlo := hap1.lo
      have hb13 := HBW.out.trans (hb3.mono HBW.out.size)
      have hb13d := below_drewN hb13 1
      have ownD := ((App.refl own1).later hb13d).own
      have bkD := bk.below hb13d bk.lt
      have hne3 : ∀ q, A3 = some q → (Value.slice A n c).ownBlock ≠ some q.block := fun q hq e1 => by
        have h1 := (own_ltD own1 _ e1).1
        have h2 := (hlo q hq).1
        have h3 := HBW.out.size
        omega
      obtain ⟨A5, c5, w5, A6, c6, w6, hrun5, hrun6, hown6, hb6, hkp⟩ := insRowD (e := x) (w3.drewN 1) ownD HN.out hk hnl hap1.drew.own hne3 (Nat.le_trans hbs hb3.size)
      have hkg := hkp g (by have := bkD.lt; exact this) hgo
      have F4 : (loadK 47 ⟨g, 0, none⟩).run Try.prog w3.drew = .ok (edV x) w3.drew ∧ w3.drew.cell? ⟨g, 3, none⟩ = some (.int .u64 x.n) := ⟨loadK_edB bkD, bkD.cell 3⟩
      have FA : Hid (∀ ob, (loadK 47 ⟨g, 0, none⟩).run Try.prog (w3.alloc ob).drew = .ok (edV x) (w3.alloc ob).drew ∧ (w3.alloc ob).drew.cell? ⟨g, 3, none⟩ = some (.int .u64 x.n)) := Lib.hid fun ob => by
        have hq : Bk (w3.alloc ob).drew g 47 (edA x) := bkD.alloc ob
        exact ⟨loadK_edB hq, hq.cell 3⟩
      have bk5 : Bk w5 g 47 (edA x) := hkg.1.trans bkD
      have bk6 : Bk w6 g 47 (edA x) := hkg.2.trans bkD
      have F5 : (loadK 47 ⟨g, 0, none⟩).run Try.prog w5 = .ok (edV x) w5 ∧ w5.cell? ⟨g, 3, none⟩ = some (.int .u64 x.n) := ⟨loadK_edB bk5, bk5.cell 3⟩
      have F6 : (loadK 47 ⟨g, 0, none⟩).run Try.prog w6 = .ok (edV x) w6 ∧ w6.cell? ⟨g, 3, none⟩ = some (.int .u64 x.n) := ⟨loadK_edB bk6, bk6.cell 3⟩
      have hrun5' : (appK #[25, 25] 25 #[.slice A k c, .slice (some ⟨w3.heap.size, 0, none⟩) 1 1]).run Try.prog (w3.alloc (.cells (edA x) 47)).drew = .ok (.slice A5 (k + 1) c5) w5 := hrun5
      have HO6 := Lib.hid hown6
      have HB6 := Lib.hid hb6
      have HB13 := Lib.hid hb13d
      clear hkp hkg hown6 hb6 bk5 bk6 hap hap1 hb3 hlo ownD bkD hne3 hrbW hrun5 hb13 hb13d
      go_wp2_with fail
      go_region_held3 (fun w' => (loadK 47 ⟨g, 0, none⟩).run Try.prog w' = .ok (edV x) w' ∧ w'.cell? ⟨g, 3, none⟩ = some (.int .u64 x.n))
        (first | exact F4 | exact FA.out _ | exact F5 | exact F6) (fail)
      all_goals go_wp2_with fail
      all_goals go_ret2
      all_goals
        rw [HRR.out]
        have hbb : Below base w w6 := (HAL.out.mono (by omega)).trans ((HB13.out.mono (by have := HAL.out.size; omega)).trans HB6.out)
        have hdn : decide ((x.n : Int) ≤ 4611686018427387904) = decide (x.n ≤ 4611686018427387904) := by
          by_cases h : x.n ≤ 4611686018427387904
          · rw [decide_eq_true h, decide_eq_true (show (x.n : Int) ≤ 4611686018427387904 by omega)]
          · rw [decide_eq_false h, decide_eq_false (show ¬ (x.n : Int) ≤ 4611686018427387904 by omega)]
        exact ⟨A6, c6, n + 1, (by rw [← hdn]; rfl), by simp only [List.length_append, List.length_cons, List.length_take, List.length_drop, HN.out]; omega, HO6.out, hbb⟩
end Go.Proofs.Ythaiplhjekkooaa
