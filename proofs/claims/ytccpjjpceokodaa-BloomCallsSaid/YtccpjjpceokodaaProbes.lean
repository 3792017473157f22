/- The places of a hash: the iterator 'probes'. -/
import Derived.RangeFuncNested
import Derived.RangeFuncBound
import Derived.RangeFuncCalls
import Derived.RangeFuncLeaves
import Derived.RangeFuncBox
import Derived.Shelf.Abstract
import Derived.Shelf.RegionOpen
import Derived.WalkKit
import Derived.OwnWalkIn
import Derived.TacticsInMore
import Derived.LoopNIn
import Derived.LoopIn
import Derived.Maps.AppendAt
import Derived.Sort.QuietIn
import Derived.Deep.Onto
import Derived.Test.YtccpjjpceokodaaBits
import Derived.Test.YtccpjjpceokodaaInts
namespace Go.Proofs.Ytccpjjpceokodaa
open Go.RowKit Go.Shelf
attribute [local go_sem] Oper.semAt_some

def lowOf (h : Int) : Int := h % 4294967296
def stepOf (h : Int) : Int := bits .or .u32 (h / 4294967296) 1
/-- The j-th place. -/
def prb1 (h n : Int) (j : Nat) : Int := (lowOf h + (j : Int) * stepOf h) % 4294967296 % n
def prb (h n : Int) (k : Nat) : List Int := (List.range k).map (prb1 h n)
theorem prb_succ (h n : Int) (k : Nat) : prb h n (k + 1) = prb h n k ++ [prb1 h n k] := by simp [prb, List.range_succ]
theorem prb_prefix (h n : Int) {j k : Nat} (hj : j ≤ k) : prb h n j <+: prb h n k := by
  obtain ⟨d, rfl⟩ := Nat.exists_eq_add_of_le hj
  refine ⟨((List.range d).map (fun i => prb1 h n (j + i))), ?_⟩
  simp [prb, List.range_add]

theorem stepOf_rng (h : Int) (h0 : 0 ≤ h) (h1 : h < 18446744073709551616) : 0 ≤ stepOf h ∧ stepOf h < 4294967296 := by
  unfold stepOf
  rw [show h / 4294967296 = (((h / 4294967296).toNat : Nat) : Int) from by omega, show (1 : Int) = ((1 : Nat) : Int) from rfl, u32_or_nat _ _ (by omega) (by omega)]
  have : (h / 4294967296).toNat ||| 1 < 2 ^ 32 := Nat.or_lt_two_pow (by omega) (by omega)
  omega

/-- What a round keeps: the block that holds the number of bits. -/
def KpB (bn : Nat) (W W' : World) : Prop := W'.heap[bn]? = W.heap[bn]?

set_option maxRecDepth 100000 in
set_option maxHeartbeats 1000000 in
theorem probes1_in (N : Nat) (hN : 1 ≤ N) (l bh bk bn : Nat) (h n : Int) (k : Nat) (h0 : 0 ≤ h) (h1 : h < 18446744073709551616) (hn0 : 1 ≤ n) (hn1 : n ≤ 8388608) (hk : k ≤ 30)
    (J Jx : List Int → World → Prop) (W : World) (hJ : AbidesFrom W.heap.size J)
    (hh : W.cell? ⟨bh, 0, none⟩ = some (.int .u64 h)) (hkc : W.cell? ⟨bk, 0, none⟩ = some (.int .i64 k)) (hn : W.cell? ⟨bn, 0, none⟩ = some (.int .i64 n))  (hJ0 : J [] W)
    (hY : ∀ pre x W1, J pre W1 → pre.length < k → 0 ≤ x → x < n → YieldAt Fence.wide (N - 1) Try.prog l #[.int .i64 x] W1 fun e W' =>
      (e = .returned (.bool true) ∧ J (pre ++ [x]) W' ∧ KpB bn W1 W') ∨ (e = .returned (.bool false) ∧ Jx (pre ++ [x]) W')) :
    CallsIn Fence.wide N Try.prog 24 #[.func (.yield l) #[] #[], .pointer (some ⟨bh, 0, none⟩), .pointer (some ⟨bk, 0, none⟩), .pointer (some ⟨bn, 0, none⟩)] W fun e W' => (∃ v, e = .returned v) ∧
      ((∃ ys, ys = prb h n k ∧ J ys W') ∨ (∃ pre, pre <+: prb h n k ∧ Jx pre W')) := by
  obtain ⟨s0, s1⟩ := stepOf_rng h h0 h1
  obtain ⟨st, hst⟩ : ∃ st, st = stepOf h := ⟨_, rfl⟩
  have hsv : bits .or .u32 (h / 4294967296) 1 = st := hst.symm
  rw [← hst] at s0 s1
  have HST := Lib.hid hst
  have HJ := Lib.hid hJ
  have HY := Lib.hid hY
  have H1 := Lib.hid h1
  clear hst hJ hY h1
  have mixed : Try.prog.follows .mixedOrders = true := by kernel_rfl
  refine callsIn_of_wp Try.func24 rfl trivial ?_ rfl
  simp only [Try.ntmps24, List.size_toArray, List.length_cons, List.length_nil, Nat.reduceAdd, Nat.reduceSub, Array.replicate_succ, Array.replicate_zero, List.push_toArray, List.append_toArray, List.nil_append, List.cons_append]
  have hlo : h / 4294967296 < 4294967296 := by have := H1.out; omega
  gi_wp2
  gi_quiet (fail)
  clear hsv hlo
  gi_wp2_with fail
  gi_loopw [5, 14] (fun xv iv wr => ∃ (j : Nat) (v : Int), j ≤ k ∧ iv = .int .i64 j ∧ xv = .int .u32 v ∧ 0 ≤ v ∧ v < 4294967296 ∧ v = (lowOf h + (j : Int) * stepOf h) % 4294967296 ∧ KpB bn W wr ∧ J (prb h n j) wr) (fun _ iv _ => k - (intOf iv).toNat)
  case atStart =>
    exact ⟨0, _, by omega, rfl, rfl, by omega, by omega, by simp [lowOf], rfl, HJ.out [] W _ none hJ0 ⟨rfl, rfl, rfl, Nat.le_refl _, fun _ _ _ => rfl⟩ (fun r e => by cases e)⟩
  case round =>
    obtain ⟨j, v, hj, rfl, rfl, hv0, hv1, hv, hB, hJs⟩ := hrel
    have hnc := (World.cell?_of_block (a := ⟨bn, 0, none⟩) hB).trans hn
    have HV := Lib.hid hv
    clear hv hn hkc hh
    by_cases hlt : j < k
    · obtain ⟨x, hvx⟩ : ∃ x, v % n = x := ⟨_, rfl⟩
      have hx0 : 0 ≤ x := by rw [← hvx]; exact Int.emod_nonneg _ (by omega)
      have hxn : x < n := by have := Int.emod_lt_of_pos v (show 0 < n from by omega); omega
      have hx1 : x < 8388608 := by omega
      obtain ⟨fn, tmps, assign, body, hy, hR⟩ := HY.out (prb h n j) x wr hJs (by simp [prb]; omega) hx0 hxn
      have hx : prb h n (j + 1) = prb h n j ++ [x] := by rw [prb_succ, prb1, ← hvx, HV.out]
      have HXX := Lib.hid hx
      clear hx
      gi_wp2
      refine hR.mono ?_
      rintro e W3 (⟨rfl, hJ3, hk3⟩ | ⟨rfl, hJx3⟩)
      · gi_wp2
        go_roundw
        case rel =>
          refine ⟨j + 1, _, by omega, by go_num, rfl, ?_, ?_, ?_, Eq.trans hk3 hB, by rw [HXX.out]; exact hJ3⟩
          all_goals (try rw [IntKind.wrap_u32])
          · omega
          · omega
          · have e1 := HV.out
            have e2 := HST.out
            rw [← e2] at e1 ⊢
            rw [show (((j + 1 : Nat) : Int) * st) = (j : Int) * st + st from by rw [Int.natCast_add, Int.add_mul]; simp]
            generalize (j : Int) * st = q at *
            omega
        case measure => simp [intOf]; omega
      · gi_wp2
        refine bodyPost_ret (results_none rfl _ _ _) rfl ?_
        exact ⟨⟨_, rfl⟩, .inr ⟨prb h n j ++ [x], by rw [← HXX.out]; exact prb_prefix h n (by omega), hJx3⟩⟩
    · gi_wp2
      go_end0
      exact ⟨⟨_, rfl⟩, .inl ⟨prb h n j, by rw [show j = k from by omega], hJs⟩⟩

theorem probes_stops (N : Nat) (hN : 1 ≤ N) (bh bk bn : Nat) (h n : Int) (k : Nat) (h0 : 0 ≤ h) (h1 : h < 18446744073709551616) (hn0 : 1 ≤ n) (hn1 : n ≤ 8388608) (hk : k ≤ 30) (w : World)
    (hh : w.cell? ⟨bh, 0, none⟩ = some (.int .u64 h)) (hkc : w.cell? ⟨bk, 0, none⟩ = some (.int .i64 k)) (hn : w.cell? ⟨bn, 0, none⟩ = some (.int .i64 n)) (hbh : bh < w.heap.size) (hbk : bk < w.heap.size) (hbn : bn < w.heap.size) :
    SeqStopsK Fence.wide N Try.prog 24 #[.pointer (some ⟨bh, 0, none⟩), .pointer (some ⟨bk, 0, none⟩), .pointer (some ⟨bn, 0, none⟩)] (fun x : Int => #[Value.int .i64 x]) (KpB bn) (fun ys => ys = prb h n k) (fun pre => pre <+: prb h n k) k w := fun l J Jx W hW hJ _ hY hj =>
  probes1_in N hN l bh bk bn h n k h0 h1 hn0 hn1 hk J Jx W hJ ((hW.cell (p := ⟨bh, 0, none⟩) hbh).trans hh) ((hW.cell (p := ⟨bk, 0, none⟩) hbk).trans hkc) ((hW.cell (p := ⟨bn, 0, none⟩) hbn).trans hn) hj (fun pre x W1 h hl _ _ => hY pre x W1 h hl)
/-- A place. -/
abbrev Pl (n : Int) := { x : Int // 0 ≤ x ∧ x < n }
theorem probes_stopsB (N : Nat) (hN : 1 ≤ N) (bh bk bn : Nat) (h n : Int) (k : Nat) (h0 : 0 ≤ h) (h1 : h < 18446744073709551616) (hn0 : 1 ≤ n) (hn1 : n ≤ 8388608) (hk : k ≤ 30) (w : World)
    (hh : w.cell? ⟨bh, 0, none⟩ = some (.int .u64 h)) (hkc : w.cell? ⟨bk, 0, none⟩ = some (.int .i64 k)) (hn : w.cell? ⟨bn, 0, none⟩ = some (.int .i64 n)) (hbh : bh < w.heap.size) (hbk : bk < w.heap.size) (hbn : bn < w.heap.size) :
    SeqStopsK Fence.wide N Try.prog 24 #[.pointer (some ⟨bh, 0, none⟩), .pointer (some ⟨bk, 0, none⟩), .pointer (some ⟨bn, 0, none⟩)] (fun x : Pl n => #[Value.int .i64 x.1]) (KpB bn) (fun ys => ys.map (·.1) = prb h n k) (fun pre => pre.map (·.1) <+: prb h n k) k w := fun l J Jx W hW hJ _ hY hj => by
  refine (probes1_in N hN l bh bk bn h n k h0 h1 hn0 hn1 hk (fun zs W => ∃ ys : List (Pl n), ys.map (·.1) = zs ∧ J ys W) (fun zs W => ∃ ys : List (Pl n), ys.map (·.1) = zs ∧ Jx ys W) W ?_ ((hW.cell (p := ⟨bh, 0, none⟩) hbh).trans hh) ((hW.cell (p := ⟨bk, 0, none⟩) hbk).trans hkc) ((hW.cell (p := ⟨bn, 0, none⟩) hbn).trans hn) ⟨[], rfl, hj⟩ ?_).mono ?_
  · rintro s A B row ⟨ys, e, hs⟩ hg hr
    exact ⟨ys, e, hJ _ _ _ _ hs hg hr⟩
  · rintro pre x W1 ⟨ys, rfl, hs⟩ hl hx0 hx1
    refine (hY ys ⟨x, hx0, hx1⟩ W1 hs (by simpa using hl)).mono ?_
    rintro e W' (⟨h1, h2, h3⟩ | ⟨h1, h2⟩)
    · exact .inl ⟨h1, ⟨_, by simp, h2⟩, h3⟩
    · exact .inr ⟨h1, ⟨_, by simp, h2⟩⟩
  · rintro e W' ⟨h1, (⟨zs, h2, ys, h3, h4⟩ | ⟨zs, h2, ys, h3, h4⟩)⟩
    · exact ⟨h1, .inl ⟨ys, h3.trans h2, h4⟩⟩
    · subst h3; exact ⟨h1, .inr ⟨ys, h2, h4⟩⟩
set_option maxHeartbeats 1000000 in
theorem probes_in (N : Nat) (h n k : Int) (w : World) :
    CallsIn Fence.wide N Try.prog 22 #[.int .u64 h, .int .i64 n, .int .i64 k] w fun e w' => e = .returned (.func (.func 24) #[] #[.pointer (some ⟨w.heap.size, 0, none⟩), .pointer (some ⟨w.heap.size + 2, 0, none⟩), .pointer (some ⟨w.heap.size + 1, 0, none⟩)]) ∧ w' = ((w.alloc (.cells #[.int .u64 h] 36)).alloc (.cells #[.int .i64 n] 3)).alloc (.cells #[.int .i64 k] 3) := by
  refine callsIn_of_wp Try.func22 rfl trivial ?_ rfl
  simp only [Try.ntmps22, List.size_toArray, List.length_cons, List.length_nil, Nat.reduceAdd, Nat.reduceSub, Array.replicate_succ, Array.replicate_zero, List.push_toArray, List.append_toArray, List.nil_append, List.cons_append]
  gi_wp2
  go_ret
  exact ⟨rfl, rfl⟩
theorem intinfo : (Try.prog.info? 3).map (fun i => (i.zero, i.size, i.bytes)) = some (some (.int .i64 0), 1, 8) := by kernel_rfl
theorem prb_len (h n : Int) (k : Nat) : (prb h n k).length = k := by simp [prb]

set_option maxRecDepth 100000 in
set_option maxHeartbeats 2000000 in
/-- Probes: all places of a hash. -/
theorem bloomProbes1 (h n : Int) (k : Nat) (w : World) (h0 : 0 ≤ h) (h1 : h < 18446744073709551616) (hn0 : 1 ≤ n) (hn1 : n ≤ 8388608) (hk0 : 1 ≤ k) (hk : k ≤ 30) :
    Calls Try.prog 14 #[.int .u64 h, .int .i64 n, .int .i64 k] w fun e W' => ∃ v, e = .returned (.tuple #[v, .int .i64 0]) ∧ W'.ownsRow w.heap.size 3 1 v k (iv (prb h n k)) ∧ Below w.heap.size w W' := by
  refine (callsIn_wide (n := 4)).1 ?_
  obtain ⟨i0, hi, hz0, hz1, hz2⟩ := info_parts intinfo
  have d1 : decide (n < 1) = false := by simp; omega
  have d2 : decide (8388608 < n) = false := by simp; omega
  have d3 : decide ((k : Int) < 1) = false := by simp; omega
  have d4 : decide (30 < (k : Int)) = false := by simp; omega
  refine callsIn_of_wp_marks Try.func14 rfl trivial ?_ rfl
  simp only [Try.ntmps14, List.size_toArray, List.length_cons, List.length_nil, Nat.reduceAdd, Nat.reduceSub, Array.replicate_succ, Array.replicate_zero, List.push_toArray, List.append_toArray, List.nil_append, List.cons_append]
  gi_wp2_with (refine ⟨trivial, ?_⟩; gi_at_call 22; refine (probes_in 3 _ _ _ _).mono ?_; rintro e w' ⟨rfl, rfl⟩)
  have bO := ((Boxed.new w 31 (.slice none 0 0)).alloc (.cells #[.int .u64 h] 36)).alloc (.cells #[.int .i64 n] 3) |>.alloc (.cells #[.int .i64 k] 3)
  have bH := ((Boxed.new (w.alloc (.cells #[.slice none 0 0] 31)) 36 (.int .u64 h)).alloc (.cells #[.int .i64 n] 3)).alloc (.cells #[.int .i64 k] 3)
  have bN := (Boxed.new ((w.alloc (.cells #[.slice none 0 0] 31)).alloc (.cells #[.int .u64 h] 36)) 3 (.int .i64 n)).alloc (.cells #[.int .i64 k] 3)
  have bK := Boxed.new (((w.alloc (.cells #[.slice none 0 0] 31)).alloc (.cells #[.int .u64 h] 36)).alloc (.cells #[.int .i64 n] 3)) 3 (.int .i64 k)
  rw [World.size_alloc] at bH
  rw [World.size_alloc, World.size_alloc] at bN
  rw [World.size_alloc, World.size_alloc, World.size_alloc] at bK
  have hB0 : Below w.heap.size w ((((w.alloc (.cells #[.slice none 0 0] 31)).alloc (.cells #[.int .u64 h] 36)).alloc (.cells #[.int .i64 n] 3)).alloc (.cells #[.int .i64 k] 3)) := ((((Below.refl _ w).alloc (Nat.le_refl _) _).alloc (by simp) _).alloc (by simp; omega) _).alloc (by simp; omega) _
  refine wpIn_rangeFunc_ownG rfl (by omega) (gf := 24) (lb := #[.pointer (some ⟨w.heap.size + 1, 0, none⟩), .pointer (some ⟨w.heap.size + 1 + 2, 0, none⟩), .pointer (some ⟨w.heap.size + 1 + 1, 0, none⟩)]) rfl trivial (enters_of Try.func24 (by kernel_rfl) rfl)
    (probes_stops 3 (by omega) (w.heap.size + 1) (w.heap.size + 1 + 2) (w.heap.size + 1 + 1) h n k h0 h1 hn0 hn1 hk _ bH.cell bK.cell bN.cell (by simp) (by simp) (by simp)) (fun a b => Eq.trans b a) (fun W l o o' hl ho _ _ => (grownBy_putObj' W l o').block _ (by have := (Array.getElem?_eq_some_iff.1 ho).1; simp at hl; omega) (by simp at hl ⊢; omega)) (Below.refl _ _) (fun _ => rfl)
    (fun pre W => (∃ v, Boxed W w.heap.size 31 v ∧ W.ownsRow (w.heap.size + 4) 3 1 v pre.length (iv pre) ∧ True) ∧ Below w.heap.size w W ∧ Boxed W (w.heap.size + 1 + 1) 3 (.int .i64 n) ∧ Boxed W (w.heap.size + 1 + 1 + 1) 3 (.int .i64 k))
    (fun _ _ _ => False)
    (OwnFrom.and (Own.from (holdsRow_own (w.heap.size + 4) w.heap.size 31 3 1 (fun pre => pre.length) (fun pre => iv pre) (fun _ _ => True)) _) (OwnFrom.and (ownFrom_below (Nat.le_refl _) (by simp; omega)) (OwnFrom.and (Own.from (boxed_own _ _ _) _) (Own.from (boxed_own _ _ _) _))))
    (fun _ _ _ _ _ hs _ _ => hs)
    ⟨⟨_, bO, World.ownsRow_nil _ _ _ _, trivial⟩, hB0, bN, bK⟩
    (fun x => { tmps := #[.int .u64 h, .int .i64 n, .int .i64 k, undef, undef, undef, .slice none 0 0, .int .i64 0, .pointer (some ⟨w.heap.size, 0, none⟩), .int .i64 x, .int .i64 n, .bool false, .bool false, .int .i64 n, .bool false, .bool false, .bool false, .int .i64 k, .bool false, .bool false, .bool false, .int .i64 k, .bool false, .bool false, .int .u64 h, .int .i64 n, .int .i64 k, .func (.func 24) #[] #[.pointer (some ⟨w.heap.size + 1, 0, none⟩), .pointer (some ⟨w.heap.size + 1 + 2, 0, none⟩), .pointer (some ⟨w.heap.size + 1 + 1, 0, none⟩)], .int .i64 x, undef, undef, undef, undef, undef], defers := [] }) ?assign ?body ?done ?stop
  case assign =>
    intro l x W K hK
    gi_wp2
    exact hK
  case body =>
    rintro l pre x W ⟨⟨v, hv, hrow, _⟩, hB, hbn, hbk⟩ hlt
    have hc := hv.cell
    have hsz := hbk.lt
    have hne : v.ownBlock ≠ some (w.heap.size + 1 + 1) := fun e => by have := (hrow.lt _ e).1; omega
    have hne2 : v.ownBlock ≠ some (w.heap.size + 1 + 1 + 1) := fun e => by have := (hrow.lt _ e).1; omega
    have hr0 := World.ownsRow.mono (base' := w.heap.size) hrow (by omega)
    have HR0 := Lib.hid hr0
    clear hr0
    gi_wp2_with (gi_at_builtin; refine wpListIn_append_own _ rfl _ _ 31 rfl (w.heap.size + 4) 3 i0 (.int .i64 0) 1 8 Try.underlying31 hi hz0 hz1 hz2 rfl (by decide) _ _ _ rfl (hrow.alloc _) ⟨W.heap.size, 0, none⟩ 1 1 [.int .i64 x] rfl rfl (cell_one_new _ _ _) (by simp [Value.oneCell']) (by simp only [maxLen]; omega) (by omega) (by simp; omega) ?_; intro v' w1 hown' hgrow _; obtain ⟨g', cap', rfl⟩ := ownsRow_succ hown'; obtain ⟨hv1, hv2, hr2, hk2, hb2⟩ := hv.appended (e := 3) (by decide) HR0.out hB.size (Nat.le_refl _) (World.ownsRow.mono (base' := w.heap.size) hown' (by omega)) hgrow; have hc1 := hv1.cell; have hf1 := hv1.frozen)
    have hr2' := World.ownsRow.kept hown' (grownBy_setCell' w1 w.heap.size (.slice (some ⟨g', 0, none⟩) (pre.length + 1) cap')) (.inr (hv1.not_row (by decide) hown').symm)
    have bn2 : Boxed (w1.setCell ⟨w.heap.size, 0, none⟩ (.slice (some ⟨g', 0, none⟩) (pre.length + 1) cap')) (w.heap.size + 1 + 1) 3 (.int .i64 n) := ((hbn.alloc _).kept hgrow (Ne.symm hne)).other (by omega) _
    have bk2 : Boxed (w1.setCell ⟨w.heap.size, 0, none⟩ (.slice (some ⟨g', 0, none⟩) (pre.length + 1) cap')) (w.heap.size + 1 + 1 + 1) 3 (.int .i64 k) := ((hbk.alloc _).kept hgrow (Ne.symm hne2)).other (by omega) _
    exact ⟨hk2.from _, Eq.trans bn2 (Eq.symm hbn), ⟨_, hv2, by simpa [iv] using hr2', trivial⟩, hB.trans hb2, bn2, bk2⟩
  case done =>
    rintro D ys W hD rfl ⟨⟨v, hv, hrow, _⟩, hB, _⟩ hK
    have hc := hv.cell
    gi_wp2
    refine ⟨by simp, .inl ⟨_, _, rfl, run_takeDeferred hK, ?_⟩⟩
    have hlen := prb_len h n k
    refine ⟨_, results_tmp2 rfl _ _ _, v, rfl, ?_, hB.trans (belowK_b (w := w) (Nat.le_refl _) W D _ _ (by simp at hD; omega) hK rfl rfl)⟩
    have := ownsRow_putObj (World.ownsRow.mono (base' := w.heap.size) hrow (by omega)) (.deferred none) hK rfl
    rw [hlen] at this
    exact this
  case stop =>
    rintro D c pre W _ _ h _
    exact h.elim
end Go.Proofs.Ytccpjjpceokodaa
