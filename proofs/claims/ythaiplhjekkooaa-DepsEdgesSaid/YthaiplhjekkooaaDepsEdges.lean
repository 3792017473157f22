/- The statement DepsEdges: whatever a trace is, its edges are what the document says. The walk. -/
import Derived.Deep.Cut
import Derived.Deep.CutRange
import Derived.Test.YthaiplhjekkooaaDeT
import Derived.Test.YthaiplhjekkooaaRfG0
import Derived.Test.YthaiplhjekkooaaAdI
namespace Go.Proofs.Ythaiplhjekkooaa
open Go.RowKit

theorem addE_len (x : Ed) (l : List Ed) : (addE x l).1.length ≤ l.length + 1 := by
  have h1 : (l.take (addPos x l) ++ x :: l.drop (addPos x l)).length ≤ l.length + 1 := by
    simp only [List.length_append, List.length_cons, List.length_take, List.length_drop]; omega
  unfold addE
  cases hy : l[addPos x l]? with
  | none => exact h1
  | some y =>
    simp only []
    split
    · exact h1
    · split
      · exact Nat.le_succ _
      · rw [List.length_set]; exact Nat.le_succ _
theorem foldl_len {f : List Ed → Nat → List Ed} {c : Nat} (h : ∀ o k, (f o k).length ≤ o.length + c) : ∀ (xs : List Nat) (o : List Ed), (xs.foldl f o).length ≤ o.length + xs.length * c
  | [], o => by simp
  | x :: xs, o => by
    have h1 := foldl_len h xs (f o x)
    have h2 := h o x
    rw [List.foldl_cons, List.length_cons, Nat.add_mul]
    omega
theorem edOut_len (l : List Ad) (size : Int) : (edOut l size).1.length ≤ l.length * l.length := by
  have h1 : ∀ x o k, (edAt size l x o k).length ≤ o.length + 1 := fun x o k => by
    unfold edAt
    split
    · unfold edStep
      split
      · exact addE_len _ _
      · exact Nat.le_succ _
    · exact Nat.le_succ _
  have h2 : ∀ o i, (edRow size l o i).length ≤ o.length + l.length := fun o i => by
    unfold edRow
    split
    · rename_i y _
      have := foldl_len (h1 y) (List.range l.length) o
      rwa [List.length_range, Nat.mul_one] at this
    · exact Nat.le_add_right _ _
  unfold edOut
  split
  · simp
  split
  · simp
  split
  · simp
  · have := foldl_len h2 (List.range l.length) []
    simpa using this
set_option maxRecDepth 100000 in
set_option maxHeartbeats 4000000 in
theorem depsEdges_walk (A : Option Addr) (n c : Nat) (l : List AE) (size start : Int) (w : World) (h : InAs w A n c l) (hz : (Lit.int .i64 size).wf = true) (hs : (Lit.int .i64 start).wf = true) :
    Calls Try.prog 3 #[.slice A n c, .int .i64 size, .int .i64 start] w fun e w' => e = .returned (.bool true) ∧ Below w.heap.size w w' := by
  have hnm : n ≤ 9223372036854775807 := by have h1 := h.cap; have h2 := h.max; simp only [maxLen] at h2; omega
  have zb := i64_ofK hz
  have sb := i64_ofK hs
  obtain ⟨r, hr⟩ : ∃ r, edOut (ads l) size = r := ⟨_, rfl⟩
  have HR := Lib.hid h.rd
  have HI := Lib.hid (show ∀ e ∈ l, e.a.s.start ≤ 9223372036854775807 ∧ -9223372036854775808 ≤ e.a.s.start from fun e he => ⟨(h.i64 e he).2.1.2, (h.i64 e he).2.1.1⟩)
  have HL := Lib.hid h.len
  have CL : Hid (∀ W, Below w.heap.size w W → Calls Try.prog 9 #[.slice A n c, .int .i64 40, .int .i64 200] W (SmalladPost W l 40)) := Lib.hid fun W hW => kitSmallAds 40 200 W (h.rd.below hW) h.len hW.size hnm (by omega)
  have C1 : Hid (n ≤ 200 → ∀ W, Below w.heap.size w W → Calls Try.prog 10 #[.slice A n c, .int .i64 size] W (EdsPost W r)) := Lib.hid fun hn W hW => by rw [← hr]; exact edLaw l size W (HR.out.below hW) HL.out hW.size hn zb.1 zb.2 HI.out
  have C2 : Hid (n ≤ 200 → ∀ W, Below w.heap.size w W → Calls Try.prog 11 #[.slice A n c, .int .i64 size] W (EdsPost W r)) := Lib.hid fun hn W hW => by rw [← hr]; exact rDeEdges l size W (HR.out.below hW) HL.out hW.size hn zb.1 zb.2 HI.out
  have C3 := Lib.hid fun W => deBucket start size W sb.1 sb.2 zb.1 zb.2
  have C4 := Lib.hid fun W => rDeBucket start size W sb.1 sb.2 zb.1 zb.2
  obtain ⟨bk, hbk⟩ : ∃ bk, bktOf start size = bk := ⟨_, rfl⟩
  rw [hbk] at C3 C4
  have hself : ((r.2 : Int) == (r.2 : Int)) = true := by simp
  have hself1 : ((bk.1 : Int) == (bk.1 : Int)) = true := by simp
  have hself2 : ((bk.2 : Int) == (bk.2 : Int)) = true := by simp
  have HLN := Lib.hid (show l.length = n from h.len)
  have HRL : Hid (n ≤ 200 → r.1.length ≤ 9223372036854775807) := Lib.hid fun hn => by
    rw [← hr]
    have h1 := edOut_len (ads l) size
    rw [ads_len, HL.out] at h1
    have h2 : n * n ≤ 200 * 200 := Nat.mul_le_mul hn hn
    omega
  clear hr hbk h hz hs
  go_enter Try.func3, Try.ntmps3
  go_upto_region 3 with (go_at_call 8; refine (deLives _).mono ?_; rintro e w2 ⟨rfl, hb2⟩)
  go_upto_if 19 with (go_at_call 9; refine (CL.out _ hb2).mono ?_; rintro e w3 ⟨q, rfl, hb3, hq⟩)
  have hb23 := hb2.trans (hb3.mono hb2.size)
  clear hb3
  cases q with
  | false =>
    go_wp2_with fail
    go_ret
    exact ⟨rfl, hb23⟩
  | true =>
    have hn2 : n ≤ 200 := by have h1 := hq rfl; have h2 := HLN.out; omega
    clear hq
    go_wp2_with fail
    refine (C1.out hn2 _ hb23).mono ?_
    rintro e w4 ⟨A4, c4, rfl, hw4, hb4⟩
    have hb24 := hb23.trans (hb4.mono hb23.size)
    go_wp2_with fail
    refine (C2.out hn2 _ hb24).mono ?_
    rintro e w5 ⟨A5, c5, rfl, hw5, hb5⟩
    have hb25 := hb24.trans (hb5.mono hb24.size)
    have r4 := Rd.belowS (Rd.of_own hw4) hb5
    have r5 := Rd.of_own hw5
    clear hw4 hw5 hb4 hb5
    go_wp2_with fail
    refine (C3.out _).mono ?_
    rintro e w6 ⟨rfl, hw6⟩
    rw [hw6]
    clear hw6
    go_wp2_with fail
    refine (C4.out _).mono ?_
    rintro e w6 ⟨rfl, hw6⟩
    rw [hw6]
    clear hw6
    have cs := kitSameEds (c := c4) (c' := c5) r.1 r.1 w5 r4 r5 rfl rfl (HRL.out hn2)
    rw [decide_eq_true rfl] at cs
    have CS := Lib.hid cs
    clear cs r4 r5
    go_wp2_with fail
    refine CS.out.mono ?_
    rintro e w6 ⟨rfl, d, rfl⟩
    go_wp2_with fail
    go_ret
    exact ⟨rfl, below_drewN hb25 d⟩
end Go.Proofs.Ythaiplhjekkooaa
