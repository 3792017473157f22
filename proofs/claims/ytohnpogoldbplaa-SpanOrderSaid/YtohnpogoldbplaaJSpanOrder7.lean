/- Texts of the proof of SpanOrderSaid, joined: SrC SrD SoG SoH Pk SoI SpanOrder Open. -/
import Derived.Test.YtohnpogoldbplaaJSpanOrder6
import Derived.Test.YtohnpogoldbplaaJSpanOrder4
import Derived.Deep.QuietTactic
import Derived.Test.YtohnpogoldbplaaJSpanOrder1
import Derived.Deep.Cut
import Derived.Deep.RegionHeld3
import Derived.Deep.CutRange
import Derived.Test.YtohnpogoldbplaaRows
import Derived.ProofKit
import Derived.OpenShut
import Derived.ShutString
import Derived.ChangeOld
/- Spans, the document's answer: the order of two numbers, texts, lists of tags. -/
namespace Go.Proofs.Ytohnpogoldbplaa
open Go.RowKit

theorem rNumber (x y : Int) (w : World) : Calls Try.prog 66 #[.int .u64 x, .int .u64 y] w fun e w' => e = .returned (.int .i64 (cmpI x y)) ∧ w' = w := by
  by_cases h1 : x < y
  · rw [show cmpI x y = -1 from by rw [cmpI, if_pos h1]]
    go_enter Try.func66, Try.ntmps66
    go_wp2
    go_ret
    exact ⟨rfl, rfl⟩
  · by_cases h2 : y < x
    · rw [show cmpI x y = 1 from by rw [cmpI, if_neg h1, if_pos h2]]
      go_enter Try.func66, Try.ntmps66
      go_wp2
      go_ret
      exact ⟨rfl, rfl⟩
    · rw [show cmpI x y = 0 from by rw [cmpI, if_neg h1, if_neg h2]]
      go_enter Try.func66, Try.ntmps66
      go_wp2
      go_ret
      exact ⟨rfl, rfl⟩
theorem rSigned (x y : Int) (w : World) : Calls Try.prog 67 #[.int .i64 x, .int .i64 y] w fun e w' => e = .returned (.int .i64 (cmpI x y)) ∧ w' = w := by
  by_cases h1 : x < y
  · rw [show cmpI x y = -1 from by rw [cmpI, if_pos h1]]
    go_enter Try.func67, Try.ntmps67
    go_wp2
    go_ret
    exact ⟨rfl, rfl⟩
  · by_cases h2 : y < x
    · rw [show cmpI x y = 1 from by rw [cmpI, if_neg h1, if_pos h2]]
      go_enter Try.func67, Try.ntmps67
      go_wp2
      go_ret
      exact ⟨rfl, rfl⟩
    · rw [show cmpI x y = 0 from by rw [cmpI, if_neg h1, if_neg h2]]
      go_enter Try.func67, Try.ntmps67
      go_wp2
      go_ret
      exact ⟨rfl, rfl⟩
theorem strLt_ways (s t : ByteArray) : (strLt s t = true ∧ cmpS s t = -1) ∨ (strLt s t = false ∧ strLt t s = true ∧ cmpS s t = 1) ∨ (strLt s t = false ∧ strLt t s = false ∧ cmpS s t = 0) := by
  cases h1 : strLt s t with
  | true => exact .inl ⟨rfl, by rw [cmpS, if_pos h1]⟩
  | false =>
    cases h2 : strLt t s with
    | true =>
      refine .inr (.inl ⟨rfl, rfl, ?_⟩)
      have hne : s ≠ t := fun e => by subst e; rw [h1] at h2; cases h2
      rw [cmpS, h1, if_neg hne]
      simp
    | false =>
      refine .inr (.inr ⟨rfl, rfl, ?_⟩)
      rw [strLt_ltb] at h1 h2
      have := nums_inj (ltb_tri _ _ h1 h2)
      subst this
      rw [cmpS, strLt_ltb, h1]
      simp
theorem rTextC (s t : ByteArray) (w : World) : Calls Try.prog 68 #[.string s, .string t] w fun e w' => e = .returned (.int .i64 (cmpS s t)) ∧ w' = w := by
  rcases strLt_ways s t with ⟨h1, h3⟩ | ⟨h1, h2, h3⟩ | ⟨h1, h2, h3⟩
  · rw [h3]
    unfold strLt at h1
    clear h3
    go_enter Try.func68, Try.ntmps68
    go_wp2
    go_ret
    exact ⟨rfl, rfl⟩
  · rw [h3]
    have e0 : (s.toList == t.toList) = false := by
      rw [strEq_of', decide_eq_false_iff_not]
      rintro rfl
      rw [h1] at h2
      cases h2
    unfold strLt at h1 h2
    clear h3
    go_enter Try.func68, Try.ntmps68
    go_wp2
    go_ret
    exact ⟨rfl, rfl⟩
  · rw [h3]
    have e0 : (s.toList == t.toList) = true := by
      rw [strEq_of', decide_eq_true_iff]
      rw [strLt_ltb] at h1 h2
      exact nums_inj (ltb_tri _ _ h1 h2)
    unfold strLt at h1 h2
    clear h3
    go_enter Try.func68, Try.ntmps68
    go_wp2
    go_ret
    exact ⟨rfl, rfl⟩
theorem rTruth (w : World) (b : Bool) : Calls Try.prog 54 #[.bool b] w fun e w' => e = .returned (.int .i64 (if b = true then 1 else 0)) ∧ w' = w := by
  cases b
  · go_enter Try.func54, Try.ntmps54
    go_wp2
    go_ret
    exact ⟨rfl, rfl⟩
  · go_enter Try.func54, Try.ntmps54
    go_wp2
    go_ret
    exact ⟨rfl, rfl⟩

set_option maxRecDepth 100000 in
set_option maxHeartbeats 2000000 in
theorem rTags {A1 A2 : Option Addr} {c1 c2 n m B : Nat} {la lb : List Tg} (w : World) (hf : RbT w B A1 la) (hg : RbT w B A2 lb) (hn : la.length = n) (hm : lb.length = m) (hnl : n ≤ 9223372036854775807) (hml : m ≤ 9223372036854775807) :
    Calls Try.prog 69 #[.slice A1 n c1, .slice A2 m c2] w fun e w' => e = .returned (.int .i64 (cmpTL la lb)) ∧ ∃ d, w' = w.drewN d := by
  have HN := Lib.hid hn
  have HM := Lib.hid hm
  obtain ⟨q, hq⟩ : ∃ q, cmpTL la lb = q := ⟨_, rfl⟩
  rw [hq]
  have HQ := Lib.hid hq
  clear hn hm hq
  go_enter Try.func69, Try.ntmps69
  go_wp2
  go_loopw [5, 6] (fun iv_ _ wr => ∃ j : Nat, j ≤ n ∧ j ≤ m ∧ iv_ = .int .i64 j ∧ cmpTL (la.drop j) (lb.drop j) = q ∧ ∃ d, wr = w.drewN d) (fun i _ _ => n - (intOf i).toNat)
  case atStart => exact ⟨0, by omega, by omega, rfl, HQ.out, 0, rfl⟩
  case round =>
    obtain ⟨j, hj, hjm, rfl, hd, d, rfl⟩ := hrel
    have HD := Lib.hid hd
    clear hd
    by_cases hlt : j < n
    · have hlt' : (j : Int) < (n : Int) := by omega
      by_cases hlm : j < m
      · have hlm2 : (j : Int) < (m : Int) := by omega
        obtain ⟨x, hx⟩ : ∃ x, la[j]? = some x := ⟨_, List.getElem?_eq_getElem (by rw [HN.out]; exact hlt)⟩
        obtain ⟨b1, o1, rfl, hbb1, c11, c12⟩ := RbT.get hf hx
        obtain ⟨y, hy⟩ : ∃ y, lb[j]? = some y := ⟨_, List.getElem?_eq_getElem (by rw [HM.out]; exact hlm)⟩
        obtain ⟨b2, o2, rfl, hbb2, c21, c22⟩ := RbT.get hg hy
        have hst := cmpTL_step hx hy
        rw [HD.out, cmpTg, orL2] at hst
        obtain ⟨u, hu⟩ : ∃ u, cmpS x.key y.key = u := ⟨_, rfl⟩
        obtain ⟨v, hv⟩ : ∃ v, cmpS x.val y.val = v := ⟨_, rfl⟩
        have hc1 := fun W => rTextC x.key y.key W
        have hc2 := fun W => rTextC x.val y.val W
        rw [hu] at hst hc1
        rw [hv] at hst hc2
        have HST := Lib.hid hst
        have HC1 := Lib.hid hc1
        have HC2 := Lib.hid hc2
        clear hst hc1 hc2 hu hv hx hy hbb1 hbb2
        go_wp2_with fail
        by_cases h0 : u = 0
        · subst h0
          by_cases h1 : v = 0
          · subst h1
            have hd := HST.out
            simp only [ne_eq, not_true, if_false] at hd
            have HD2 := Lib.hid hd
            clear hd
            go_quiet ((go_at_call 68; go_loud (exact (HC1.out _).mono (fun _ _ h => ⟨h.1, _, h.2⟩))))
            go_wp2_with fail
            go_quiet ((go_at_call 68; go_loud (exact (HC2.out _).mono (fun _ _ h => ⟨h.1, _, h.2⟩))))
            go_wp2_with fail
            go_roundw
            case rel => exact ⟨j + 1, by omega, by omega, by go_num, HD2.out.symm, _, rfl⟩
            case measure => simp [intOf]; omega
          · have hxb : (v != 0) = true := by simp [h1]
            have hd := HST.out
            simp only [ne_eq, not_true, if_false, h1, not_false_eq_true, if_true] at hd
            have HD2 := Lib.hid hd
            clear hd
            go_quiet ((go_at_call 68; go_loud (exact (HC1.out _).mono (fun _ _ h => ⟨h.1, _, h.2⟩))))
            go_wp2_with fail
            go_quiet ((go_at_call 68; go_loud (exact (HC2.out _).mono (fun _ _ h => ⟨h.1, _, h.2⟩))))
            go_wp2_with fail
            go_ret
            exact ⟨by rw [HD2.out]; rfl, _, rfl⟩
        · have hxb : (u != 0) = true := by simp [h0]
          have hxc : (u == 0) = false := by simp [h0]
          have hd := HST.out
          simp only [ne_eq, h0, not_false_eq_true, if_true] at hd
          have HD2 := Lib.hid hd
          clear hd
          go_quiet ((go_at_call 68; go_loud (exact (HC1.out _).mono (fun _ _ h => ⟨h.1, _, h.2⟩))))
          go_wp2_with fail
          go_ret
          exact ⟨by rw [HD2.out]; rfl, _, rfl⟩
      · have hlm2 : decide ((j : Int) < (m : Int)) = false := by simp; omega
        have hq1 : q = cmpI (n : Int) (m : Int) := by
          rw [← HD.out, show lb.drop j = [] from List.drop_eq_nil_of_le (by rw [HM.out]; omega), List.drop_eq_getElem_cons (by rw [HN.out]; exact hlt), cmpTL, cmpI, if_neg (by omega), if_pos (by omega)]
        have HQ1 := Lib.hid hq1
        clear hq1
        go_wp2_with (go_at_call 67; refine (rSigned _ _ _).mono ?_; rintro e w' ⟨rfl, hw⟩; rw [hw]; clear hw w')
        go_ret
        exact ⟨by rw [HQ1.out]; rfl, d, rfl⟩
    · have hlt' : decide ((j : Int) < (n : Int)) = false := by simp; omega
      obtain rfl : j = n := by omega
      have hq1 : q = cmpI (j : Int) (m : Int) := by
        rw [← HD.out, show la.drop j = [] from List.drop_eq_nil_of_le (by rw [HN.out]; omega)]
        by_cases hlm : j < m
        · rw [List.drop_eq_getElem_cons (by rw [HM.out]; exact hlm), cmpTL, cmpI, if_pos (by omega)]
        · rw [List.drop_eq_nil_of_le (by rw [HM.out]; omega), cmpTL, cmpI, if_neg (by omega), if_neg (by omega)]
      have HQ1 := Lib.hid hq1
      clear hq1
      go_wp2_with (go_at_call 67; refine (rSigned _ _ _).mono ?_; rintro e w' ⟨rfl, hw⟩; rw [hw]; clear hw w')
      go_ret
      exact ⟨by rw [HQ1.out]; rfl, d, rfl⟩
end Go.Proofs.Ytohnpogoldbplaa

/- Spans, the document's answer: Compare. -/
namespace Go.Proofs.Ytohnpogoldbplaa
open Go.RowKit

theorem orL_nest (x y : Int) (l : List Int) : orL (orL [x, y] :: l) = orL (x :: y :: l) := by
  simp only [orL]
  by_cases h : x = 0
  · subst h
    by_cases h2 : y = 0 <;> simp [h2]
  · simp [h]
theorem orL_none {l : List Int} {j : Nat} (h : l.length ≤ j) : orL (l.drop j) = 0 := by rw [List.drop_eq_nil_of_le h]; rfl

set_option maxRecDepth 100000 in
set_option maxHeartbeats 8000000 in
theorem rCompare {A1 A2 : Option Addr} {c1 c2 n m B : Nat} (a b : Sp) (w : World) (hf : RbT w B A1 a.tags) (hg : RbT w B A2 b.tags) (hn : a.tags.length = n) (hm : b.tags.length = m) (hB : B ≤ w.heap.size) (hnl : n ≤ 9223372036854775807) (hml : m ≤ 9223372036854775807) :
    Calls Try.prog 23 #[spV a A1 n c1, spV b A2 m c2] w fun e w' => e = .returned (.int .i64 (spCmp a b)) ∧ Below w.heap.size w w' := by
  have hb0 : Below w.heap.size w ((w.alloc (.cells (spC a A1 n c1) 27)).alloc (.cells (spC b A2 m c2) 27)) := ((Below.refl _ w).alloc (Nat.le_refl _) _).alloc (by simp) _
  have hff := Rd.below hf (hb0.mono hB)
  have hgg := Rd.below hg (hb0.mono hB)
  have bk1 := (Bk.new w 27 (spC a A1 n c1)).alloc (.cells (spC b A2 m c2) 27)
  have bk2 := Bk.new (w.alloc (.cells (spC a A1 n c1) 27)) 27 (spC b A2 m c2)
  rw [World.size_alloc] at bk2
  have hs1 : ((w.alloc (.cells (spC a A1 n c1) 27)).alloc (.cells (spC b A2 m c2) 27)).heap.size = w.heap.size + 2 := by simp
  obtain ⟨W, hW⟩ : ∃ W, (w.alloc (.cells (spC a A1 n c1) 27)).alloc (.cells (spC b A2 m c2) 27) = W := ⟨_, rfl⟩
  rw [hW] at hb0 hff hgg bk1 bk2 hs1
  have HW := Lib.hid hW
  obtain ⟨g, hgq⟩ : ∃ g, w.heap.size = g := ⟨_, rfl⟩
  rw [hgq] at bk1 bk2
  have HG := Lib.hid hgq
  have bd1 := bk1.drew
  have bd2 := bk2.drew
  have fd := Rd.drew hff
  have gd := Rd.drew hgg
  have hbd : Below w.heap.size w W.drew := below_drewN hb0 1
  have hBW : B ≤ W.drew.heap.size := by show B ≤ W.heap.size; omega
  obtain ⟨fa, hfa⟩ : ∃ fa : Int, (if a.fails = true then 1 else 0) = fa := ⟨_, rfl⟩
  obtain ⟨fb, hfb⟩ : ∃ fb : Int, (if b.fails = true then 1 else 0) = fb := ⟨_, rfl⟩
  have hT1 := fun W => rTruth W a.fails
  rw [hfa] at hT1
  have hT2 := fun W => rTruth W b.fails
  rw [hfb] at hT2
  have hres : spCmp a b = orL [cmpI a.hi b.hi, cmpI a.lo b.lo, cmpI a.id b.id, cmpI a.parent b.parent, cmpI a.start b.start, cmpI a.length b.length, cmpS a.service b.service, cmpS a.name b.name, cmpI a.kind b.kind, cmpI fa fb, cmpTL a.tags b.tags] := by rw [spCmp, hfa, hfb, cmpTr, orL_nest]
  obtain ⟨q, hq⟩ : ∃ q, spCmp a b = q := ⟨_, rfl⟩
  rw [hq]
  rw [hq] at hres
  have HQ := Lib.hid hres
  clear hres hfa hfb hq
  have HN := Lib.hid hn
  have HM := Lib.hid hm
  clear hW hgq hf hg hn hm hb0 hff hgg bk1 bk2 hs1
  go_enter Try.func23, Try.ntmps23
  go_upto_region 1 with fail
  rw [HW.out, HG.out]
  go_region_held3 (fun w' => (w'.cell? ⟨g, 0, none⟩ = some (.int .u64 a.hi) ∧ w'.cell? ⟨g, 1, none⟩ = some (.int .u64 a.lo) ∧ w'.cell? ⟨g, 2, none⟩ = some (.int .u64 a.id) ∧ w'.cell? ⟨g, 3, none⟩ = some (.int .u64 a.parent) ∧ w'.cell? ⟨g, 4, none⟩ = some (.string a.service) ∧ w'.cell? ⟨g, 5, none⟩ = some (.string a.name) ∧ w'.cell? ⟨g, 6, none⟩ = some (.int .i64 a.kind) ∧ w'.cell? ⟨g, 7, none⟩ = some (.int .i64 a.start) ∧ w'.cell? ⟨g, 8, none⟩ = some (.int .i64 a.length) ∧ w'.cell? ⟨g, 9, none⟩ = some (.bool a.fails) ∧ w'.cell? ⟨g, 10, none⟩ = some (.slice A1 n c1)) ∧ (w'.cell? ⟨g + 1, 0, none⟩ = some (.int .u64 b.hi) ∧ w'.cell? ⟨g + 1, 1, none⟩ = some (.int .u64 b.lo) ∧ w'.cell? ⟨g + 1, 2, none⟩ = some (.int .u64 b.id) ∧ w'.cell? ⟨g + 1, 3, none⟩ = some (.int .u64 b.parent) ∧ w'.cell? ⟨g + 1, 4, none⟩ = some (.string b.service) ∧ w'.cell? ⟨g + 1, 5, none⟩ = some (.string b.name) ∧ w'.cell? ⟨g + 1, 6, none⟩ = some (.int .i64 b.kind) ∧ w'.cell? ⟨g + 1, 7, none⟩ = some (.int .i64 b.start) ∧ w'.cell? ⟨g + 1, 8, none⟩ = some (.int .i64 b.length) ∧ w'.cell? ⟨g + 1, 9, none⟩ = some (.bool b.fails) ∧ w'.cell? ⟨g + 1, 10, none⟩ = some (.slice A2 m c2)))
    (exact ⟨cells11 (by assumption), cells11 (by assumption)⟩)
    (first
      | (go_at_call 66
         refine (rNumber _ _ _).mono ?_
         rintro e w' ⟨rfl, hw⟩
         rw [hw]
         clear hw w')
      | (go_at_call 67
         refine (rSigned _ _ _).mono ?_
         rintro e w' ⟨rfl, hw⟩
         rw [hw]
         clear hw w')
      | (go_at_call 68
         refine (rTextC _ _ _).mono ?_
         rintro e w' ⟨rfl, hw⟩
         rw [hw]
         clear hw w')
      | (go_at_call_of 54 (Value.bool a.fails)
         refine (hT1 _).mono ?_
         rintro e w' ⟨rfl, hw⟩
         rw [hw]
         clear hw w')
      | (go_at_call_of 54 (Value.bool b.fails)
         refine (hT2 _).mono ?_
         rintro e w' ⟨rfl, hw⟩
         rw [hw]
         clear hw w')
      | (go_at_call 69
         refine (rTags W.drew fd gd HN.out HM.out hnl hml).mono ?_
         rintro e w6 ⟨rfl, hw6⟩
         have hb6 := below_all hw6 W.drew.heap.size
         clear hw6
         have bf1 := bd1.below hb6 bd1.lt
         have bf2 := bd2.below hb6 bd2.lt
         have hbf := hbd.trans (hb6.mono hbd.size)
         have bz := Bk.new w6 3 #[.int .i64 (cmpI a.hi b.hi), .int .i64 (cmpI a.lo b.lo), .int .i64 (cmpI a.id b.id), .int .i64 (cmpI a.parent b.parent), .int .i64 (cmpI a.start b.start), .int .i64 (cmpI a.length b.length), .int .i64 (cmpS a.service b.service), .int .i64 (cmpS a.name b.name), .int .i64 (cmpI a.kind b.kind), .int .i64 (cmpI fa fb), .int .i64 (cmpTL a.tags b.tags)]
         have hbz := hbf.alloc hbf.size (.cells #[.int .i64 (cmpI a.hi b.hi), .int .i64 (cmpI a.lo b.lo), .int .i64 (cmpI a.id b.id), .int .i64 (cmpI a.parent b.parent), .int .i64 (cmpI a.start b.start), .int .i64 (cmpI a.length b.length), .int .i64 (cmpS a.service b.service), .int .i64 (cmpS a.name b.name), .int .i64 (cmpI a.kind b.kind), .int .i64 (cmpI fa fb), .int .i64 (cmpTL a.tags b.tags)] 3)
         have bg1 := bf1.alloc (.cells #[.int .i64 (cmpI a.hi b.hi), .int .i64 (cmpI a.lo b.lo), .int .i64 (cmpI a.id b.id), .int .i64 (cmpI a.parent b.parent), .int .i64 (cmpI a.start b.start), .int .i64 (cmpI a.length b.length), .int .i64 (cmpS a.service b.service), .int .i64 (cmpS a.name b.name), .int .i64 (cmpI a.kind b.kind), .int .i64 (cmpI fa fb), .int .i64 (cmpTL a.tags b.tags)] 3)
         have bg2 := bf2.alloc (.cells #[.int .i64 (cmpI a.hi b.hi), .int .i64 (cmpI a.lo b.lo), .int .i64 (cmpI a.id b.id), .int .i64 (cmpI a.parent b.parent), .int .i64 (cmpI a.start b.start), .int .i64 (cmpI a.length b.length), .int .i64 (cmpS a.service b.service), .int .i64 (cmpS a.name b.name), .int .i64 (cmpI a.kind b.kind), .int .i64 (cmpI fa fb), .int .i64 (cmpTL a.tags b.tags)] 3))
      | fail)
  all_goals
    obtain ⟨l, hl⟩ : ∃ l : List Int, [cmpI a.hi b.hi, cmpI a.lo b.lo, cmpI a.id b.id, cmpI a.parent b.parent, cmpI a.start b.start, cmpI a.length b.length, cmpS a.service b.service, cmpS a.name b.name, cmpI a.kind b.kind, cmpI fa fb, cmpTL a.tags b.tags] = l := ⟨_, rfl⟩
    have hlen : l.length = 11 := by rw [← hl]; rfl
    have hbk : Bk (w6.alloc (.cells #[.int .i64 (cmpI a.hi b.hi), .int .i64 (cmpI a.lo b.lo), .int .i64 (cmpI a.id b.id), .int .i64 (cmpI a.parent b.parent), .int .i64 (cmpI a.start b.start), .int .i64 (cmpI a.length b.length), .int .i64 (cmpS a.service b.service), .int .i64 (cmpS a.name b.name), .int .i64 (cmpI a.kind b.kind), .int .i64 (cmpI fa fb), .int .i64 (cmpTL a.tags b.tags)] 3)) w6.heap.size 3 (l.map (Value.int .i64)).toArray := by rw [← hl]; exact bz
    obtain ⟨v, hv⟩ : ∃ v, w6.alloc (.cells #[.int .i64 (cmpI a.hi b.hi), .int .i64 (cmpI a.lo b.lo), .int .i64 (cmpI a.id b.id), .int .i64 (cmpI a.parent b.parent), .int .i64 (cmpI a.start b.start), .int .i64 (cmpI a.length b.length), .int .i64 (cmpS a.service b.service), .int .i64 (cmpS a.name b.name), .int .i64 (cmpI a.kind b.kind), .int .i64 (cmpI fa fb), .int .i64 (cmpTL a.tags b.tags)] 3) = v := ⟨_, rfl⟩
    rw [hv] at hbk hbz ⊢
    obtain ⟨z, hz⟩ : ∃ z, w6.heap.size = z := ⟨_, rfl⟩
    rw [hz] at hbk ⊢
    have hget : ∀ j x, l[j]? = some x → v.cell? ⟨z, j, none⟩ = some (.int .i64 x) := fun j x h => by
      rw [hbk.cell j, List.getElem?_toArray, List.getElem?_map, h]
      rfl
    have HGET := Lib.hid hget
    have HLEN := Lib.hid hlen
    have hqq := HQ.out
    rw [hl] at hqq
    have HQQ := Lib.hid hqq
    clear hl hlen hbk hv hz hget hqq bz bg1 bg2 bf1 bf2 hbf hb6
    go_wp2_with fail
    go_loop [6] (fun i => ∃ j : Nat, j ≤ 11 ∧ i = .int .i64 j ∧ orL (l.drop j) = q) (fun i => 11 - (intOf i).toNat)
    case atStart => exact ⟨0, by omega, rfl, HQQ.out.symm⟩
    case round =>
      obtain ⟨j, hj, rfl, hd⟩ := hrel
      have HD := Lib.hid hd
      clear hd
      by_cases hlt : j < 11
      · have hlt' : (j : Int) < 11 := by omega
        obtain ⟨x, hx⟩ : ∃ x, l[j]? = some x := ⟨_, List.getElem?_eq_getElem (by rw [HLEN.out]; exact hlt)⟩
        have hc := HGET.out j x hx
        have hd := orL_drop hx
        rw [HD.out] at hd
        have HX := Lib.hid hd
        clear hx hd
        by_cases h0 : x = 0
        · subst h0
          have hd := HX.out
          rw [if_neg (by simp)] at hd
          have HX2 := Lib.hid hd
          clear hd
          go_wp2
          go_round
          case rel => exact ⟨j + 1, by omega, by go_num, HX2.out.symm⟩
          case measure => simp [intOf]; omega
        · have hxb : (x != 0) = true := by simp [h0]
          have hd := HX.out
          rw [if_pos h0] at hd
          have HX2 := Lib.hid hd
          clear hd
          go_wp2
          go_ret
          exact ⟨by rw [HX2.out]; rfl, hbz⟩
      · have hlt' : decide ((j : Int) < 11) = false := by simp; omega
        have hq0 : q = 0 := by rw [← HD.out]; exact orL_none (by rw [HLEN.out]; omega)
        have HQ0 := Lib.hid hq0
        clear hq0
        go_wp2
        go_ret
        exact ⟨by rw [HQ0.out]; rfl, hbz⟩
end Go.Proofs.Ytohnpogoldbplaa

/- ref.Copy, ref.Order. -/
namespace Go.Proofs.Ytohnpogoldbplaa
open Go.RowKit

set_option maxRecDepth 100000 in
set_option maxHeartbeats 2000000 in
theorem rCopy {A : Option Addr} {c n B : Nat} (s : Sp) (w : World) (hf : RbT w B A s.tags) (hn : s.tags.length = n) (hB : B ≤ w.heap.size) (hnl : n ≤ 4398046511104) :
    Calls Try.prog 73 #[spV s A n c] w (CopyPost w s n A) := by
  have hb0 : Below w.heap.size w ((w.alloc (.cells (spC s A n c) 27)).alloc (.cells zspC 27)) := ((Below.refl _ w).alloc (Nat.le_refl _) _).alloc (by simp) _
  have hf1 := Rd.below hf (hb0.mono hB)
  have bk := (Bk.new w 27 (spC s A n c)).alloc (.cells zspC 27)
  have br := Bk.new (w.alloc (.cells (spC s A n c) 27)) 27 zspC
  rw [World.size_alloc] at br
  have hs1 : ((w.alloc (.cells (spC s A n c) 27)).alloc (.cells zspC 27)).heap.size = w.heap.size + 2 := by simp
  obtain ⟨w1, hw1⟩ : ∃ w1, (w.alloc (.cells (spC s A n c) 27)).alloc (.cells zspC 27) = w1 := ⟨_, rfl⟩
  rw [hw1] at hb0 hf1 bk br hs1
  have HW := Lib.hid hw1
  obtain ⟨g, hg⟩ : ∃ g, w.heap.size = g := ⟨_, rfl⟩
  rw [hg] at bk br
  have HG := Lib.hid hg
  have hg1 : g + 2 ≤ w1.heap.size := by omega
  have HN := Lib.hid hn
  have k10 : (w1.alloc (.cells #[] 42)).cell? ⟨g, 10, none⟩ = some (.slice A n c) := (bk.alloc _).cell 10
  have hBw : B ≤ w1.heap.size := by omega
  clear hw1 hg hn hf hs1
  go_enter Try.func73, Try.ntmps73
  go_upto_region 1 with fail
  rw [HW.out, HG.out]
  go_wp2_with (at_builtin; go_loud (refine wpList_appTg _ rfl (.tmp 3) (.tmp 5) rfl w1.heap.size _ 0 [] rfl (World.ownsRow_lit w1 #[] 0 (Nat.le_refl _) (by simp [maxLen]) rfl) B A n c s.tags rfl HN.out (Rd.alloc hf1 hBw _) (by omega) (by simp) ?_))
  intro A' c' w2 happ0 hne0
  have happ := happ0.fresh1
  clear happ0
  have hb2 := happ.below0
  have bk2 := bk.below hb2 bk.lt
  have br2 := br.below hb2 br.lt
  have hlo := happ.lo
  have hrd := Rd.of_own happ.own
  have hcap : n ≤ c' ∧ (A' = none → n = 0 ∧ c' = 0) := by
    rcases happ.own.2 with ⟨h1, h2⟩ | ⟨q, cap, cur, h1, _, _, h3, _⟩
    · injection h1 with _ _ h4
      exact ⟨by omega, fun _ => ⟨h2, h4⟩⟩
    · injection h1 with h4 _ h5
      subst h5
      exact ⟨h3, fun h => by rw [h] at h4; cases h4⟩
  have k10b : w2.cell? ⟨g, 10, none⟩ = some (.slice A n c) := bk2.cell 10
  have f10b : w2.frozen? ⟨g, 10, none⟩ = false := bk2.frozen 10
  have bk3 := bk2.set 10 (.slice A' n c')
  have br3 := br2.far (p := ⟨g, 10, none⟩) (by show g + 1 ≠ g; omega) (.slice A' n c')
  have hb3 := (hb0.trans (hb2.mono hb0.size)).setCell (p := ⟨g, 10, none⟩) (by show w.heap.size ≤ g; rw [HG.out]; exact Nat.le_refl _) (.slice A' n c')
  have hrd3 := hrd.grownS (grown_setCell w2 g 10 (.slice A' n c')) (fun a ha e => by
    have h1 := (hlo a ha).1
    have h2 := Option.some.inj e
    omega)
  have bk3' : Bk (w2.setCell ⟨g, 10, none⟩ (.slice A' n c')) g 27 (spC s A' n c') := bk3
  obtain ⟨w3, hw3⟩ : ∃ w3, w2.setCell ⟨g, 10, none⟩ (.slice A' n c') = w3 := ⟨_, rfl⟩
  rw [hw3] at bk3' br3 hb3 hrd3
  have HW3 := Lib.hid hw3
  clear hw3 bk3 bk2 br2 hb2 hrd happ hf1 bk br
  go_wp2_with (first
    | (refine wpList_load_row rfl 27 (.tmp 1) rfl g rfl 27 (spC s A' n c') (0, 0) _ (by rw [HW3.out]; exact bk3') Try.underlying27 rfl (by rfl) ?_; rw [HW3.out])
    | (refine wpList_store_row rfl 27 (.tmp 2) (.tmp 8) rfl (g + 1) (spC s A' n c') rfl rfl 27 zspC br3 (by rfl) rfl (spC_one s A' n c') ?_))
  try simp only [Exit.inBlock, Exit.then]
  refine bodyPost_ret (results_cell_row rfl _ _ (g + 1) 27 (spC s A' n c') (0, 0) _ rfl (br3.row _) Try.underlying27 rfl (by rfl)) rfl ?_
  refine ⟨A', c', rfl, ?_, ?_, hcap.1, ?_, ?_⟩
  · refine hrd3.grownS (only_row (g + 1) _) (fun a ha e => ?_)
    have h1 := (hlo a ha).1
    have h2 := Option.some.inj e
    omega
  · refine hb3.trans ?_
    exact ⟨rfl, rfl, rfl, by simp [World.setRow], fun i hi => by
      have := HG.out
      have := hb3.size
      simp [World.setRow, Array.getElem?_modify]
      intro e
      omega⟩
  · intro a ha
    have h1 := (hlo a ha).1
    have := hb0.size
    omega
  · intro h
    exact (hne0 h).elim


end Go.Proofs.Ytohnpogoldbplaa

/- ref.Order: by insertion. -/
namespace Go.Proofs.Ytohnpogoldbplaa
open Go.RowKit
attribute [local go_sem ↓] loadK_shut
attribute [local go_sem ↓] appK_shut
/-- Where a part of a row of spans begins. -/
def cutA (a : Option Addr) (m k s : Nat) : Option Addr := if m = k then a else a.map (·.add (k * s))
theorem sliced_s (a : Option Addr) (k h m s : Nat) : sliced a k h m s = .slice (cutA a m k s) (h - k) (m - k) := rfl
theorem sliced_s0 (a : Option Addr) (h m s : Nat) : sliced a 0 h m s = .slice a h m := by
  simp only [sliced, Nat.zero_mul, Nat.sub_zero]
  split
  · rfl
  · cases a <;> rfl
attribute [local go_sem ↓] sliced_s
attribute [local go_sem ↓ high] sliced_s0

theorem insS_split (x : Sp) : ∀ (a b : List Sp), (∀ y ∈ a, ¬ spCmp x y < 0) → (∀ y ∈ b, spCmp x y < 0) → insS x (a ++ b) = a ++ x :: b
  | [], [], _, _ => rfl
  | [], y :: b, _, h => by simp [insS, h y (by simp)]
  | y :: a, b, h1, h2 => by
    rw [List.cons_append, insS, if_neg (h1 y (by simp)), insS_split x a b (fun z hz => h1 z (by simp [hz])) h2]
    rfl
theorem insS_at {x : Sp} {l : List Sp} {k : Nat} (hs : SortedS l) (hd : ∀ y ∈ l.drop k, spCmp x y < 0) (hl : k ≤ l.length) (hk : ∀ y, k ≠ 0 → l[k - 1]? = some y → ¬ spCmp x y < 0) : insS x l = l.take k ++ x :: l.drop k := by
  have h := insS_split x (l.take k) (l.drop k) (fun z hz => ?_) hd
  · rwa [List.take_append_drop] at h
  · obtain ⟨i, hi, rfl⟩ := List.mem_iff_getElem.1 hz
    simp only [List.length_take] at hi
    rw [List.getElem_take]
    have h1 := hk _ (by omega) (List.getElem?_eq_getElem (by omega : k - 1 < l.length))
    intro h2
    have h3 : spCmp l[i] (l[k - 1]'(by omega)) ≤ 0 := by
      by_cases hik : i = k - 1
      · subst hik
        rw [(spCmp_cmp.eq _ _).2 rfl]
        exact Int.le_refl _
      · exact (List.pairwise_iff_getElem.1 hs) i (k - 1) (by omega) (by omega) (by omega)
    have h4 := spCmp_cmp.le (show spCmp x l[i] ≤ 0 by omega) h3
    have h5 := (spCmp_cmp.eq _ _).1 (show spCmp x (l[k - 1]'(by omega)) = 0 by omega)
    have h6 := spCmp_cmp.neg l[i] (l[k - 1]'(by omega))
    rw [← h5] at h6 h3
    omega
theorem own_take {w : World} {base n c k size : Nat} {e : TypeId} {A : Option Addr} {xs : List Value} (h : w.ownsRow base e size (.slice A n c) n xs) (hk : k ≤ n) : w.ownsRow base e size (.slice A k c) k (xs.take (k * size)) := by
  refine ⟨by rw [List.length_take, h.1]; exact Nat.min_eq_left (Nat.mul_le_mul_right size hk), ?_⟩
  rcases h.2 with ⟨h1, h2⟩ | ⟨g, cap, cur, h1, hb, hg, hn, hc, hs, ht⟩
  · injection h1 with e1 _ e3
    subst e1 e3 h2
    obtain rfl : k = 0 := by omega
    exact .inl ⟨rfl, rfl⟩
  · injection h1 with e1 _ e3
    subst e1 e3
    refine .inr ⟨g, c, cur, rfl, hb, hg, by omega, hc, hs, ?_⟩
    rw [← ht, List.take_take, Nat.min_eq_left (Nat.mul_le_mul_right size hk)]
theorem RowS.take {w : World} {base n c k : Nat} {A : Option Addr} {l : List El} (h : RowS w base (.slice A n c) n l) (hk : k ≤ n) : RowS w base (.slice A k c) k (l.take k) := by
  have h1 := own_take h.own hk
  rw [els_take] at h1
  exact ⟨h1, by rw [List.length_take, h.len]; omega, fun e he => h.ok e (List.mem_of_mem_take he), fun e he ht a ha => by
    have := h.far e (List.mem_of_mem_take he) ht a ha
    cases A with
    | none => intro e1; cases e1
    | some q => exact this⟩
theorem Rd.dropS {w : World} {B k cap : Nat} {A : Option Addr} {l : List El} (h : Rd w B A (els l)) (hc : l.length ≤ cap) : Rd w B (cutA A cap k 11) (els (l.drop k)) := by
  unfold cutA
  rw [← els_drop]
  have h1 := Rd.drop (k := k * 11) (cap := cap * 11) h (by rw [els_length]; omega)
  by_cases hk : cap = k
  · rw [if_pos hk]
    rwa [if_pos (by omega)] at h1
  · rw [if_neg hk]
    rwa [if_neg (by omega)] at h1
theorem RowS.drewN {w : World} {base n : Nat} {v : Value} {l : List El} (h : RowS w base v n l) (k : Nat) : RowS (w.drewN k) base v n l := h.bS (below_drewN (Below.refl _ _) k)
theorem insS_sp {x : Sp} {l : List El} {k : Nat} (hs : SortedS (sps l)) (hd : ∀ y ∈ l.drop k, spCmp x y.s < 0) (hl : k ≤ l.length) (hk : ∀ y, k ≠ 0 → l[k - 1]? = some y → ¬ spCmp x y.s < 0) : insS x (sps l) = sps (l.take k) ++ x :: sps (l.drop k) := by
  have h := insS_at (x := x) (k := k) hs (fun y hy => by
    rw [sps, ← List.map_drop] at hy
    obtain ⟨e, he, rfl⟩ := List.mem_map.1 hy
    exact hd e he) (by rw [sps_length]; exact hl) (fun y h0 hy => by
    simp only [sps, List.getElem?_map, Option.map_eq_some_iff] at hy
    obtain ⟨e, he, rfl⟩ := hy
    exact hk e h0 he)
  rw [h]
  simp only [sps, List.map_take, List.map_drop]
theorem RowS.cap {w : World} {base n c : Nat} {A : Option Addr} {l : List El} (h : RowS w base (.slice A n c) n l) : n ≤ c := by
  rcases h.own.2 with ⟨h1, h2⟩ | ⟨g, cap, cur, h1, _, _, hn, _⟩
  · omega
  · injection h1 with _ _ e3
    omega
theorem run_appS (w : World) (base : Nat) (v : Value) (n : Nat) (l : List El) (hown : w.ownsRow base 27 11 v n (els l))
    (B : Nat) (A : Option Addr) (m c : Nat) (news : List El) (hl : news.length = m) (hr : Rd w B A (els news)) (hbytes : n + m ≤ 1048576) (hbase : base ≤ w.heap.size) :
    ∃ A' c' w', (appK #[52, 52] 52 #[v, .slice A m c]).run Try.prog w = .ok (.slice A' (n + m) c') w' ∧ App base 27 11 w v w' (.slice A' (n + m) c') (n + m) (els (l ++ news)) := by
  obtain ⟨i0, hi0, hz0, hz1, hz2⟩ := info_parts spinfo
  obtain ⟨v', w', hrun, h2, h3, h4, ⟨A', c', rfl⟩, h6⟩ := run_app (P := Try.prog) w base 52 52 27 i0 _ 11 120 Try.underlying52 hi0 hz0 hz1 hz2 rfl (by omega) v n (els l) hown B A m c (els news) (by rw [els_length, hl]) hr (els_one news) (by simp only [maxLen]; omega) (by omega) hbase
  rw [← els_append] at h2
  exact ⟨A', c', w', hrun, (App.refl hown).step h2 h3 h4⟩
/-- A span beside a row. -/
def OkF (w : World) (v : Value) (e : El) : Prop := ElOk w w.heap.size e ∧ (e.s.tags ≠ [] → ∀ a, e.A = some a → v.ownBlock ≠ some a.block)
theorem OkF.app {w w' : World} {base n : Nat} {v v' : Value} {xs : List Value} {e : El} (h : OkF w v e) (hap : App base 27 11 w v w' v' n xs) : OkF w' v' e := by
  obtain ⟨h1, h2⟩ := h
  refine ⟨⟨?_, h1.len, h1.max⟩, fun ht a ha => ?_⟩
  · by_cases ht : e.s.tags = []
    · rw [ht]
      exact Rd.nil
    · exact h1.rd.grownS hap.grown fun a ha => h2 ht a ha
  · rcases hap.block with hb | ⟨k, hb, hk⟩
    · rw [hb]
      exact h2 ht a ha
    · rw [hb]
      intro e1
      have e2 := Option.some.inj e1
      obtain ⟨b, o, hA, hlt, _⟩ := h1.rd (by intro e0; have := tgs_length e.s.tags; rw [e0] at this; exact ht (List.eq_nil_of_length_eq_zero (by simp at this; omega)))
      rw [ha] at hA
      have e3 := Option.some.inj hA
      subst e3
      simp only at e2
      omega
/-- One span laid into a row at k, what lay behind it being put back. -/
theorem insRow {base lo j k c c3 : Nat} {A A3 : Option Addr} {l : List El} {e : El} (W3 W4 : World) (hrow : RowS W3 base (.slice A j c) j l) (hk : k ≤ j) (hj : j ≤ 100000)
    (hA3 : W3.ownsRow lo 27 11 (.slice A3 (j - k) c3) (j - k) (els (l.drop k))) (hne : ∀ a, A3 = some a → (Value.slice A j c).ownBlock ≠ some a.block) (hbase : base ≤ W3.heap.size)
    (hb4 : Below W3.heap.size W3 W4) (hek : ElOk W4 W4.heap.size e) (hef : ∀ a, e.A = some a → W3.heap.size ≤ a.block) :
    ∃ A5 c5 w5 A6 c6 w6, (appK #[52, 52] 52 #[.slice A k c, .slice (some ⟨W4.heap.size, 0, none⟩) 1 1]).run Try.prog (W4.alloc (.cells (spC e.s e.A e.n e.c) 27)) = .ok (.slice A5 (k + 1) c5) w5 ∧
      (appK #[52, 52] 52 #[.slice A5 (k + 1) c5, .slice A3 (j - k) c3]).run Try.prog w5 = .ok (.slice A6 (j + 1) c6) w6 ∧ RowS w6 base (.slice A6 (j + 1) c6) (j + 1) (l.take k ++ e :: l.drop k) ∧ Below base W3 w6 := by
  have hb5 : Below W3.heap.size W3 (W4.alloc (.cells (spC e.s e.A e.n e.c) 27)) := hb4.alloc hb4.size _
  have hrd : Rd (W4.alloc (.cells (spC e.s e.A e.n e.c) 27)) (W4.heap.size + 1) (some ⟨W4.heap.size, 0, none⟩) (els [e]) := rd_span rfl e
  have hek5 : ElOk (W4.alloc (.cells (spC e.s e.A e.n e.c) 27)) (W4.alloc (.cells (spC e.s e.A e.n e.c) 27)).heap.size e :=
    (hek.below ((Below.refl _ W4).alloc (Nat.le_refl _) _)).more (by simp)
  obtain ⟨W5, hW5⟩ : ∃ W5, W4.alloc (.cells (spC e.s e.A e.n e.c) 27) = W5 := ⟨_, rfl⟩
  rw [hW5] at hb5 hrd hek5 ⊢
  have hrow5 := hrow.bS hb5
  have hob : (Value.slice A k c).ownBlock = (Value.slice A j c).ownBlock := by cases A <;> rfl
  have hlt := hrow.own_lt
  have hF : ∀ x ∈ e :: l, OkF W5 (.slice A k c) x := fun x hx => by
    rcases List.mem_cons.1 hx with rfl | hx
    · refine ⟨hek5, fun _ a ha e1 => ?_⟩
      rw [hob] at e1
      have h1 := (hlt _ e1).1
      have h2 := hef a ha
      omega
    · refine ⟨hrow5.ok x hx, fun ht a ha => ?_⟩
      rw [hob]
      exact hrow5.far x hx ht a ha
  have hbW : base ≤ W5.heap.size := Nat.le_trans hbase hb5.size
  obtain ⟨A5, c5, w5, hrun5, hap5⟩ := run_appS W5 base (.slice A k c) k (l.take k) (hrow5.take hk).own _ _ 1 1 [e] rfl hrd (by omega) hbW
  have hgr5 := hap5.grown
  rw [hob] at hgr5
  have hA5 := Rd.grownS (Rd.of_own ((App.refl hA3).later hb5).own) hgr5 hne
  have hl2 : (l.drop k).length = j - k := by rw [List.length_drop, hrow.len]
  obtain ⟨A6, c6, w6, hrun6, hap6⟩ := run_appS w5 base (.slice A5 (k + 1) c5) (k + 1) (l.take k ++ [e]) hap5.own _ A3 (j - k) c3 (l.drop k) hl2 hA5 (by omega) (Nat.le_trans hbW hap5.heap)
  rw [show k + 1 + (j - k) = j + 1 from by omega, List.append_assoc, List.singleton_append] at hap6
  rw [show k + 1 + (j - k) = j + 1 from by omega] at hrun6
  have hF6 : ∀ x ∈ l.take k ++ e :: l.drop k, OkF w6 (.slice A6 (j + 1) c6) x := fun x hx => by
    refine OkF.app (OkF.app (hF x ?_) hap5) hap6
    rcases List.mem_append.1 hx with hx | hx
    · exact List.mem_cons_of_mem _ (List.mem_of_mem_take hx)
    · rcases List.mem_cons.1 hx with rfl | hx
      · exact List.mem_cons_self
      · exact List.mem_cons_of_mem _ (List.mem_of_mem_drop hx)
  refine ⟨A5, c5, w5, A6, c6, w6, hrun5, hrun6, ⟨hap6.own, ?_, fun x hx => (hF6 x hx).1, fun x hx => (hF6 x hx).2⟩, ?_⟩
  · rw [List.length_append, List.length_take, List.length_cons, hl2, hrow.len]
    omega
  · have h5 : Below base W5 w5 := hap5.below hbW (fun q hq => (hlt q (by rw [← hob]; exact hq)).2)
    have h6 : Below base w5 w6 := hap6.below (Nat.le_trans hbW hap5.heap) (fun q hq => by
      rcases hap5.block with hb | ⟨r, hb, hr⟩
      · rw [hb, hob] at hq
        exact (hlt q hq).2
      · rw [hb] at hq
        have := Option.some.inj hq
        omega)
    exact ((hb5.mono hbase).trans h5).trans h6
set_option maxRecDepth 100000 in
set_option maxHeartbeats 4000000 in
theorem rOrder {A : Option Addr} {c n B : Nat} {l : List El} (w : World) (hf : RbS w B A l) (hn : l.length = n) (hB : B ≤ w.heap.size) (hnl : n ≤ 100000) (hsm : ∀ e ∈ l, e.n ≤ 1000000) :
    Calls Try.prog 35 #[.slice A n c] w (OutPost w n (ordS (sps l))) := by
  have HN := Lib.hid hn
  have HSM := Lib.hid hsm
  clear hn hsm
  go_enter Try.func35, Try.ntmps35
  go_wp2
  go_loopw [3, 4] (fun v iv_ wr => ∃ (j : Nat) (A' : Option Addr) (c' : Nat) (l' : List El), j ≤ n ∧ v = .slice A' j c' ∧ iv_ = .int .i64 j ∧ sps l' = ordS (sps (l.take j)) ∧ RowS wr w.heap.size (.slice A' j c') j l' ∧ Below w.heap.size w wr) (fun _ i _ => n - (intOf i).toNat)
  case atStart => exact ⟨0, none, 0, [], by omega, rfl, rfl, rfl, RowS.nil _ _, Below.refl _ _⟩
  case round =>
    obtain ⟨j, A', c', l', hj, rfl, rfl, hl', hrow, hb⟩ := hrel
    have HL := Lib.hid hl'
    clear hl'
    by_cases hlt : j < n
    · have hlt' : (j : Int) < (n : Int) := by omega
      obtain ⟨x, hx⟩ : ∃ x, l[j]? = some x := ⟨_, List.getElem?_eq_getElem (by rw [HN.out]; exact hlt)⟩
      have HX := Lib.hid hx
      have hxn := HSM.out x (List.mem_of_getElem? hx)
      obtain ⟨b, o, rfl, hbb, -, -⟩ := hf.get hx
      have HLOAD : Hid (∀ {W : World}, Below w.heap.size w W → (loadK 27 ⟨b, o + j * 11, none⟩).run Try.prog W = .ok (spV x.s x.A x.n x.c) W ∧ ElOk W B x) := fun {W} hW => by
        obtain ⟨b', o', e', -, hc', hok'⟩ := (hf.below (hW.mono hB)).get HX.out
        cases e'
        exact ⟨loadK_el hc', hok'⟩
      have hcap : l'.length ≤ c' := by rw [hrow.len]; exact hrow.cap
      have hjc := hrow.cap
      clear hx
      go_wp2
      obtain ⟨wO, hwO⟩ : ∃ wO, wO = wr := ⟨_, rfl⟩
      subst hwO
      go_loopw [5] (fun v wr2 => ∃ k : Nat, k ≤ j ∧ v = .int .i64 k ∧ (∀ y ∈ l'.drop k, spCmp x.s y.s < 0) ∧ Below wO.heap.size wO wr2) (fun v _ => (intOf v).toNat)
      case atStart => exact ⟨j, Nat.le_refl _, rfl, (fun y hy => by rw [List.drop_eq_nil_of_le (by rw [hrow.len]; exact Nat.le_refl _)] at hy; cases hy), Below.refl _ _⟩
      case round =>
        obtain ⟨k, hk, rfl, hall, hb2⟩ := hrel
        have HA := Lib.hid hall
        clear hall
        by_cases hk0 : k = 0
        · have k0 : decide ((0 : Int) < (k : Int)) = false := by simp; omega
          have k0' : decide (0 < k) = false := by simp; omega
          have HSP : Hid (insS x.s (sps l') = sps (l'.take k) ++ x.s :: sps (l'.drop k)) := insS_sp (by rw [HL.out]; exact ordS_sorted _) HA.out (by rw [hrow.len]; exact hk) (fun y h0 _ => absurd hk0 h0)
          go_wp2_with fail
          go_quiet (fail)
          have HK0 := Lib.hid hk0
          clear hk0 k0 k0'
          have HBW : Hid (Below wO.heap.size wO (wr.drewN nq)) := below_drewN hb2 nq
          obtain ⟨WX, hWX⟩ : ∃ WX, wr.drewN nq = WX := ⟨_, rfl⟩
          rw [hWX] at HBW ⊢
          clear hWX
          have hrowW := hrow.bS HBW.out
          have hbase : w.heap.size ≤ WX.heap.size := Nat.le_trans hb.size HBW.out.size
          have hkj : (k : Int) ≤ (j : Int) := by omega
          have hkc : (k : Int) ≤ (c' : Int) := by omega
          go_wp2_with (at_builtin; go_loud (refine wpList_appS _ rfl (.tmp 32) (.tmp 35) rfl WX.heap.size _ 0 [] rfl (World.ownsRow_lit WX #[] 0 (Nat.le_refl _) (by simp [maxLen]) rfl) WX.heap.size _ (j - k) _ (l'.drop k) rfl (by rw [List.length_drop, hrow.len]) (Rd.alloc (Rd.dropS (cap := c') hrowW.rbs.rd hcap) (Nat.le_refl _) _) (by omega) (by simp) ?_))
          intro A3 c3 w3 hap _
          have hap1 := hap.fresh1
          have hb3 := hap1.below0
          have hrow3 := hrowW.bS hb3
          have hlt3 := hb.trans ((HBW.out.trans (hb3.mono HBW.out.size)).mono hb.size)
          obtain ⟨hld, hokx⟩ := HLOAD.out hlt3
          have hldd : (loadK 27 ⟨b, o + j * 11, none⟩).run Try.prog w3.drew = .ok (spV x.s x.A x.n x.c) w3.drew := (HLOAD.out (below_drewN hlt3 1)).1
          have hokd := (HLOAD.out (below_drewN hlt3 1)).2
          have hBd : B ≤ w3.drew.heap.size := Nat.le_trans hB hlt3.size
          have hcp := rCopy (c := x.c) x.s w3.drew hokd.rd hokd.len hBd (by omega)
          have HCP := Lib.hid hcp
          clear hcp
          have hlo := hap1.lo
          have hownW := hrowW.own_lt
          have hne3 : ∀ a, A3 = some a → (Value.slice A' j c').ownBlock ≠ some a.block := fun a ha e1 => by
            have h1 := (hownW _ e1).1
            have h2 := (hlo a ha).1
            omega
          have hown3 := hap1.drew.own
          have hrow3d := hrow3.drewN 1
          have hbase3 : w.heap.size ≤ w3.drew.heap.size := hlt3.size
          go_wp2_with fail
          go_region_with
            (first
              | (go_at_call 73
                 refine HCP.out.mono ?_
                 rintro e w4 ⟨A4, c4, rfl, hr4, hb4, hc4, hlo4, -⟩
                 obtain ⟨A5, c5, w5, A6, c6, w6, hrun5, hrun6, hrow6, hb6⟩ := insRow (e := ⟨x.s, A4, x.n, c4⟩) w3.drew w4 hrow3d hk (by omega) hown3 hne3 hbase3 hb4 ⟨hr4, hokd.len, by show x.n ≤ _; omega⟩ hlo4
                 have HR6 := Lib.hid hrow6
                 clear hrow6)
              | fail)
          have hsps : sps (l'.take k ++ ⟨x.s, A4, x.n, c4⟩ :: l'.drop k) = ordS (sps (l.take (j + 1))) := by
            rw [take_snoc HX.out, sps_append, sps_append, show sps [x] = [x.s] from rfl, ordS_snoc, ← HL.out, HSP.out]
            rfl
          have HSS := Lib.hid hsps
          clear hsps
          go_wp2
          go_roundw
          case rel => exact ⟨j + 1, A6, c6, _, by omega, rfl, by go_num, HSS.out, HR6.out, (below_drewN hlt3 1).trans hb6⟩
          case measure => simp [intOf]; omega
        · obtain ⟨kk, hkk⟩ : ∃ kk, kk + 1 = k := ⟨k - 1, by omega⟩
          have k0 : (0 : Int) < (k : Int) := by omega
          have k0' : 0 < k := by omega
          have hsubw : IntKind.i64.wrap ((k : Int) - 1) = (kk : Int) := by simp [IntKind.wrap, IntKind.bits, IntKind.signed]; omega
          have hkj' : (kk : Int) < (j : Int) := by omega
          have hkjn : kk < j := by omega
          have hbd : Below wO.heap.size wO wr.drew := below_drewN hb2 1
          have hbwd : Below w.heap.size w wr.drew := hb.trans (hbd.mono hb.size)
          obtain ⟨hld1, hok1⟩ := HLOAD.out hbwd
          have hrowd := hrow.bS hbd
          obtain ⟨y, hy⟩ : ∃ y, l'[kk]? = some y := ⟨_, List.getElem?_eq_getElem (by rw [hrow.len]; omega)⟩
          have HY := Lib.hid hy
          obtain ⟨b2, o2, hAe, -, -, hok2⟩ := hrowd.rbs.get hy
          subst hAe
          have HLOAD2 : Hid (∀ {W : World}, Below wO.heap.size wO W → (loadK 27 ⟨b2, o2 + kk * 11, none⟩).run Try.prog W = .ok (spV y.s y.A y.n y.c) W) := fun {W} hW => by
            obtain ⟨b', o', e', -, hc', -⟩ := (hrow.bS hW).rbs.get HY.out
            cases e'
            exact loadK_el hc'
          have hld2 := HLOAD2.out hbd
          have hcm := rCompare (c1 := x.c) (c2 := y.c) x.s y.s wr.drew (hok1.more (Nat.le_trans hB hbwd.size)).rd hok2.rd hok1.len hok2.len (Nat.le_refl _) hok1.max hok2.max
          obtain ⟨cv, hcv⟩ : ∃ cv, spCmp x.s y.s = cv := ⟨_, rfl⟩
          rw [hcv] at hcm
          have HCV := Lib.hid hcv
          have HCM := Lib.hid hcm
          have HK0 := Lib.hid hk0
          have HKK := Lib.hid hkk
          clear hcm hcv hok1 hok2 hy hk0 hkk hrowd
          go_wp2_with fail
          go_region_held3 (fun w' => (loadK 27 ⟨b, o + j * 11, none⟩).run Try.prog w' = .ok (spV x.s x.A x.n x.c) w' ∧ (loadK 27 ⟨b2, o2 + kk * 11, none⟩).run Try.prog w' = .ok (spV y.s y.A y.n y.c) w')
            (first | exact ⟨hld1, hld2⟩ | exact ⟨hle1, hle2⟩)
            (first
              | (go_at_call 23
                 refine HCM.out.mono ?_
                 rintro e w5 ⟨rfl, hb5⟩
                 have hb05 := hbd.trans (hb5.mono hbd.size)
                 have hle1 := (HLOAD.out (hb.trans (hb05.mono hb.size))).1
                 have hle2 := HLOAD2.out hb05)
              | fail)
          by_cases hneg : cv < 0
          · have hall2 : ∀ z ∈ l'.drop kk, spCmp x.s z.s < 0 := fun z hz => by
              have h1 : l'.drop kk = y :: l'.drop (kk + 1) := by
                obtain ⟨h2, h3⟩ := List.getElem?_eq_some_iff.1 HY.out
                rw [List.drop_eq_getElem_cons h2, h3]
              rw [h1] at hz
              rcases List.mem_cons.1 hz with rfl | hz
              · rw [HCV.out]
                exact hneg
              · rw [HKK.out] at hz
                exact HA.out z hz
            have HA2 := Lib.hid hall2
            clear hall2 hld1 hld2 hle1 hle2
            go_wp2
            go_roundw
            case rel => exact ⟨kk, by omega, by go_num, HA2.out, hb05⟩
            case measure =>
              have := HKK.out
              simp [intOf]
              omega
          · have hnegd : decide (cv < 0) = false := by simp; omega
            have HSP : Hid (insS x.s (sps l') = sps (l'.take k) ++ x.s :: sps (l'.drop k)) := insS_sp (by rw [HL.out]; exact ordS_sorted _) HA.out (by rw [hrow.len]; exact hk) (fun z h0 hz => by
              rw [show k - 1 = kk from by have := HKK.out; omega, HY.out] at hz
              cases hz
              rw [HCV.out]
              exact hneg)
            have HBW : Hid (Below wO.heap.size wO w5) := hb05
            obtain ⟨WX, hWX⟩ : ∃ WX, w5 = WX := ⟨_, rfl⟩
            subst hWX
            clear hld1 hld2 hle1 hle2 hsubw k0 k0' hkj' hkjn
            have hrowW := hrow.bS HBW.out
            have hbase : w.heap.size ≤ w5.heap.size := Nat.le_trans hb.size HBW.out.size
            have hkj : (k : Int) ≤ (j : Int) := by omega
            have hkc : (k : Int) ≤ (c' : Int) := by omega
            go_wp2_with (at_builtin; go_loud (refine wpList_appS _ rfl (.tmp 32) (.tmp 35) rfl w5.heap.size _ 0 [] rfl (World.ownsRow_lit w5 #[] 0 (Nat.le_refl _) (by simp [maxLen]) rfl) w5.heap.size _ (j - k) _ (l'.drop k) rfl (by rw [List.length_drop, hrow.len]) (Rd.alloc (Rd.dropS (cap := c') hrowW.rbs.rd hcap) (Nat.le_refl _) _) (by omega) (by simp) ?_))
            intro A3 c3 w3 hap _
            have hap1 := hap.fresh1
            have hb3 := hap1.below0
            have hrow3 := hrowW.bS hb3
            have hlt3 := hb.trans ((HBW.out.trans (hb3.mono HBW.out.size)).mono hb.size)
            obtain ⟨hld, hokx⟩ := HLOAD.out hlt3
            have hldd : (loadK 27 ⟨b, o + j * 11, none⟩).run Try.prog w3.drew = .ok (spV x.s x.A x.n x.c) w3.drew := (HLOAD.out (below_drewN hlt3 1)).1
            have hokd := (HLOAD.out (below_drewN hlt3 1)).2
            have hBd : B ≤ w3.drew.heap.size := Nat.le_trans hB hlt3.size
            have hcp := rCopy (c := x.c) x.s w3.drew hokd.rd hokd.len hBd (by omega)
            have HCP := Lib.hid hcp
            clear hcp
            have hlo := hap1.lo
            have hownW := hrowW.own_lt
            have hne3 : ∀ a, A3 = some a → (Value.slice (some ⟨b2, o2, none⟩) j c').ownBlock ≠ some a.block := fun a ha e1 => by
              have h1 := (hownW _ e1).1
              have h2 := (hlo a ha).1
              omega
            have hown3 := hap1.drew.own
            have hrow3d := hrow3.drewN 1
            have hbase3 : w.heap.size ≤ w3.drew.heap.size := hlt3.size
            go_wp2_with fail
            go_region_with
              (first
                | (go_at_call 73
                   refine HCP.out.mono ?_
                   rintro e w4 ⟨A4, c4, rfl, hr4, hb4, hc4, hlo4, -⟩
                   obtain ⟨A5, c5, w5, A6, c6, w6, hrun5, hrun6, hrow6, hb6⟩ := insRow (e := ⟨x.s, A4, x.n, c4⟩) w3.drew w4 hrow3d hk (by omega) hown3 hne3 hbase3 hb4 ⟨hr4, hokd.len, by show x.n ≤ _; omega⟩ hlo4
                   have HR6 := Lib.hid hrow6
                   clear hrow6)
                | fail)
            have hsps : sps (l'.take k ++ ⟨x.s, A4, x.n, c4⟩ :: l'.drop k) = ordS (sps (l.take (j + 1))) := by
              rw [take_snoc HX.out, sps_append, sps_append, show sps [x] = [x.s] from rfl, ordS_snoc, ← HL.out, HSP.out]
              rfl
            have HSS := Lib.hid hsps
            clear hsps
            go_wp2
            go_roundw
            case rel => exact ⟨j + 1, A6, c6, _, by omega, rfl, by go_num, HSS.out, HR6.out, (below_drewN hlt3 1).trans hb6⟩
            case measure => simp [intOf]; omega
    · have hlt' : decide ((j : Int) < (n : Int)) = false := by simp; omega
      obtain rfl : j = n := by omega
      have hfin : sps l' = ordS (sps l) := by rw [HL.out, List.take_of_length_le (by rw [HN.out]; omega)]
      have HF := Lib.hid hfin
      clear hfin
      go_wp2
      go_ret
      exact ⟨A', c', l', rfl, HF.out, hrow, hb⟩
end Go.Proofs.Ytohnpogoldbplaa

/- Lists of ints; Pick. -/
namespace Go.Proofs.Ytohnpogoldbplaa
open Go.RowKit

def iv (zs : List Int) : List Value := zs.map (Value.int .i64)
theorem iv_length (zs : List Int) : (iv zs).length = zs.length := by simp [iv]
theorem iv_append (a b : List Int) : iv (a ++ b) = iv a ++ iv b := by simp [iv]
theorem iv_get {zs : List Int} {k : Nat} {x : Int} (hk : zs[k]? = some x) : (iv zs)[k]? = some (.int .i64 x) := by simp [iv, hk]
theorem iv_one (zs : List Int) : ∀ u ∈ iv zs, u.oneCell' = true := by
  intro u hu
  obtain ⟨x, _, rfl⟩ := List.mem_map.1 hu
  rfl
abbrev Ri (w : World) (B : Nat) (A : Option Addr) (zs : List Int) : Prop := Rd w B A (iv zs)
theorem Ri.get {w : World} {B : Nat} {A : Option Addr} {zs : List Int} (h : Ri w B A zs) {k : Nat} (hk : k < zs.length) :
    ∃ b o x, zs[k]? = some x ∧ A = some ⟨b, o, none⟩ ∧ b < B ∧ w.cell? ⟨b, o + k, none⟩ = some (.int .i64 x) := by
  have e := List.getElem?_eq_getElem hk
  obtain ⟨b, o, h1, h2, h3⟩ := Rd.get h (iv_get e)
  exact ⟨b, o, zs[k], e, h1, h2, h3⟩
theorem tmod_pick (n m : Int) (hm : 0 < m) : -m < n.tmod m ∧ n.tmod m < m ∧ (n.tmod m < 0 → n.tmod m + m = n % m) ∧ (0 ≤ n.tmod m → n.tmod m = n % m) := by
  have hz : m ≠ 0 := by omega
  have hq0 := Int.emod_nonneg n hz
  have hq1 := Int.emod_lt_of_pos n hm
  have hp0 := Int.emod_nonneg (-n) hz
  have hp1 := Int.emod_lt_of_pos (-n) hm
  have he := Int.mul_ediv_add_emod (-n) m
  rw [tmod_eq_if]
  generalize (-n) / m = q at *
  generalize (-n) % m = s at *
  split
  · exact ⟨by omega, by omega, fun h => by omega, fun _ => rfl⟩
  · refine ⟨by omega, by omega, fun h => ?_, fun h => ?_⟩
    · have e : (m - s) + m * (-q - 1) = n := by
        rw [Int.mul_sub, Int.mul_neg]
        omega
      rw [← e, Int.add_mul_emod_self_left, Int.emod_eq_of_lt (by omega) (by omega)]
      omega
    · have hs : s = 0 := by omega
      have e : 0 + m * (-q) = n := by rw [Int.mul_neg]; omega
      rw [← e, Int.add_mul_emod_self_left, hs]
      simp

/-- Pick: a number from 0 to below m. -/
theorem kitPick (n : Int) (m : Nat) (w : World) (hm0 : 1 ≤ m) (hm : m ≤ 1099511627776) :
    Calls Try.prog 72 #[.int .i64 n, .int .i64 m] w fun e w' => e = .returned (.int .i64 (n % (m : Int))) ∧ w' = w := by
  have hz : ¬ (m : Int) = 0 := by omega
  have hzb : ((m : Int) == 0) = false := by rw [beq_eq_false_iff_ne]; omega
  obtain ⟨h1, h2, h3, h4⟩ := tmod_pick n m (by omega)
  obtain ⟨r, hr⟩ : ∃ r, n.tmod m = r := ⟨_, rfl⟩
  rw [hr] at h1 h2 h3 h4
  have H3 := Lib.hid h3
  have H4 := Lib.hid h4
  clear h3 h4
  go_enter Try.func72, Try.ntmps72
  go_wp2
  · go_ret
    refine ⟨?_, rfl⟩
    rw [← H3.out (by omega)]
    rfl
  · go_ret
    refine ⟨?_, rfl⟩
    rw [← H4.out (by omega)]
    rfl
end Go.Proofs.Ytohnpogoldbplaa

/- bootprintkit.Shuffled: the same spans in another order. -/
namespace Go.Proofs.Ytohnpogoldbplaa
open Go.RowKit
def storeK (t : TypeId) (a : Addr) (v : Value) : Sem Unit := storeVar t a v
theorem storeK_shut (t : TypeId) (a : Addr) (v : Value) : storeVar t a v = storeK t a v := rfl
theorem loadS_shut (a : Addr) : loadVar 27 a = loadK 27 a := rfl
attribute [local go_sem ↓] loadS_shut
attribute [local go_sem ↓] storeK_shut
attribute [local go_sem ↓] appK_shut

theorem els_set {l : List El} {i : Nat} (hi : i < l.length) (e : El) : els (l.set i e) = els (l.take i) ++ elC e ++ els (l.drop (i + 1)) := by
  rw [List.set_eq_take_append_cons_drop, if_pos hi, els_append]
  simp [els]
theorem run_storeVar_at {P : Program} (w : World) (g o : Nat) (t ty : TypeId) (cells cur : Array Value) (hg : w.heap[g]? = some (.cells cur t (0, 0))) (hl : o + cells.size ≤ cur.size) (h1 : ∀ v ∈ cells.toList, v.oneCell' = true) (hi : (P.info? ty).map (·.size) = some cells.size) :
    (storeVar ty ⟨g, o, none⟩ (.agg cells)).run P w = .ok () (w.setRow g (cur.toList.take o ++ cells.toList ++ cur.toList.drop (o + cells.size)).toArray) := by
  have := run_storeCells_at (P := P) g o t cells.toList 0 cur w hg (by simpa using hl) h1
  cases hq : P.info? ty with
  | none => simp [hq] at hi
  | some i =>
    have hs : cells.size = i.size := by simp [hq] at hi; omega
    rw [Array.length_toList, Nat.add_zero] at this
    simp [storeVar, sizeOf, typeInfo, hq, Value.cells, hs]
    simpa [hs] using this
set_option maxRecDepth 100000 in
/-- A span stored into a row. -/
theorem RowS.store {W : World} {base g n c i : Nat} {l : List El} (h : RowS W base (.slice (some ⟨g, 0, none⟩) n c) n l) (hi : i < n) (e : El) (he : OkF W (.slice (some ⟨g, 0, none⟩) n c) e) :
    ∃ W', (storeK 27 ⟨g, i * 11, none⟩ (spV e.s e.A e.n e.c)).run Try.prog W = .ok () W' ∧ RowS W' base (.slice (some ⟨g, 0, none⟩) n c) n (l.set i e) ∧ W.grownBy W' (some g) := by
  rcases h.own.2 with ⟨h1, _⟩ | ⟨g', cap', cur, hv, hbase, hb, hnc, hcm, hcs, htk⟩
  · cases h1
  · injection hv with e1 _ e3
    injection e1 with e1
    injection e1 with e1
    subst e1 e3
    have hi11 : i * 11 + 11 ≤ n * 11 := by omega
    have hn11 : n * 11 ≤ cur.size := by rw [hcs]; exact Nat.mul_le_mul_right 11 hnc
    have hst : (storeK 27 ⟨g, i * 11, none⟩ (spV e.s e.A e.n e.c)).run Try.prog W = .ok () (W.setRow g (cur.toList.take (i * 11) ++ elC e ++ cur.toList.drop (i * 11 + 11)).toArray) :=
      run_storeVar_at W g (i * 11) 27 27 (spC e.s e.A e.n e.c) cur hb (by show i * 11 + 11 ≤ _; omega) (fun v hv => by
        have := spC_one e.s e.A e.n e.c
        rw [Array.all_eq_true'] at this
        exact this v (by simpa using hv)) (by rfl)
    refine ⟨_, hst, ?_, only_row g _⟩
    have hgr : W.grownBy (W.setRow g (cur.toList.take (i * 11) ++ elC e ++ cur.toList.drop (i * 11 + 11)).toArray) (some g) := only_row g _
    have hF : ∀ x ∈ l.set i e, OkF W (.slice (some ⟨g, 0, none⟩) n c) x := fun x hx => by
      rcases List.mem_or_eq_of_mem_set hx with hx | rfl
      · exact ⟨h.ok x hx, h.far x hx⟩
      · exact he
    refine ⟨⟨by rw [els_length, List.length_set, h.len], .inr ⟨g, c, _, rfl, hbase, setRow_heap W g cur _ _ _ hb, hnc, hcm, ?_, ?_⟩⟩, by rw [List.length_set, h.len], fun x hx => ?_, fun x hx => (hF x hx).2⟩
    · simp only [List.size_toArray, List.length_append, List.length_take, List.length_drop, Array.length_toList, elC_length]
      omega
    · have e1 : els (l.take i) = cur.toList.take (i * 11) := by
        rw [← els_take, ← htk, List.take_take, Nat.min_eq_left (by omega)]
      have e2 : els (l.drop (i + 1)) = (cur.toList.drop (i * 11 + 11)).take (n * 11 - (i * 11 + 11)) := by
        rw [← els_drop, ← htk, List.drop_take, show (i + 1) * 11 = i * 11 + 11 from by omega]
      have hl1 : (cur.toList.take (i * 11) ++ elC e).length = i * 11 + 11 := by
        rw [List.length_append, List.length_take, Array.length_toList, elC_length, Nat.min_eq_left (by omega)]
      rw [els_set (by rw [h.len]; exact hi), e1, e2, List.take_append, hl1, List.take_of_length_le (by omega)]
    · obtain ⟨h1, h2⟩ := hF x hx
      refine ⟨?_, h1.len, h1.max⟩
      by_cases ht : x.s.tags = []
      · rw [ht]
        exact Rd.nil
      · exact h1.rd.grownS hgr fun a ha => h2 ht a ha
theorem OkF.grown {w w' : World} {v : Value} {e : El} (h : OkF w v e) (hg : w.grownBy w' v.ownBlock) : OkF w' v e := by
  obtain ⟨h1, h2⟩ := h
  refine ⟨⟨?_, h1.len, h1.max⟩, h2⟩
  by_cases ht : e.s.tags = []
  · rw [ht]
    exact Rd.nil
  · exact h1.rd.grownS hg fun a ha => h2 ht a ha
theorem RowS.okf {w : World} {base n : Nat} {v : Value} {l : List El} (h : RowS w base v n l) {e : El} (he : e ∈ l) : OkF w v e := ⟨h.ok e he, h.far e he⟩
/-- The same spans, in a row of the call's own, in some order. -/
def ShufPost (w : World) (n : Nat) (l : List El) (e : Ending) (w' : World) : Prop :=
  ∃ A' c' l', e = .returned (.slice A' n c') ∧ (sps l').Perm (sps l) ∧ (∀ x ∈ l', x.n ≤ 1000000) ∧ RowS w' w.heap.size (.slice A' n c') n l' ∧ Below w.heap.size w w'
set_option maxRecDepth 100000 in
set_option maxHeartbeats 4000000 in
theorem kitShuf {A AP : Option Addr} {c n B m cp : Nat} {l : List El} {ps : List Int} (w : World) (hf : RbS w B A l) (hn : l.length = n) (hB : B ≤ w.heap.size) (hnl : n ≤ 100000) (hsm : ∀ e ∈ l, e.n ≤ 1000000)
    (hp : Ri w B AP ps) (hm : ps.length = m) (hml : m ≤ 9223372036854775807) :
    Calls Try.prog 33 #[.slice A n c, .slice AP m cp] w (ShufPost w n l) := by
  have HN := Lib.hid hn
  have HM := Lib.hid hm
  have HSM := Lib.hid hsm
  have hrl := Rd.alloc hf.rd hB (.cells #[] 27)
  clear hn hsm hm
  go_enter Try.func33, Try.ntmps33
  go_wp2_with (at_builtin; go_loud (refine wpList_appS _ rfl (.tmp 9) (.tmp 10) rfl w.heap.size _ 0 [] rfl (World.ownsRow_lit w #[] 0 (Nat.le_refl _) (by simp [maxLen]) rfl) B A n c l rfl HN.out hrl (by omega) (by simp) ?_))
  intro A1 c1 w1 hap _
  have hap1 := hap.fresh1
  have hrow1 : RowS w1 w.heap.size (.slice A1 n c1) n l := by
    have h := (RowS.nil w w.heap.size).app (es := l) (v' := .slice A1 n c1) (w' := w1) (by rw [Nat.zero_add, HN.out, List.nil_append]; exact hap1) (fun e he => (hf.ok e he).more hB) (fun e he ht a ha e1 => by cases e1)
    rw [Nat.zero_add, HN.out, List.nil_append] at h
    exact h
  have hb1 := hap1.below0
  obtain ⟨g, rfl⟩ : ∃ g, A1 = some ⟨g, 0, none⟩ := by
    rcases hap1.own.2 with ⟨h1, _⟩ | ⟨g, _, _, h1, _⟩
    · injection h1 with e1
      contradiction
    · injection h1 with e1
      exact ⟨g, e1⟩
  clear hap hap1 hrl
  go_wp2
  go_loopw [6] (fun iv_ wr => ∃ (i : Nat) (l' : List El), i ≤ m ∧ iv_ = .int .i64 i ∧ (sps l').Perm (sps l) ∧ (∀ x ∈ l', x.n ≤ 1000000) ∧ RowS wr w.heap.size (.slice (some ⟨g, 0, none⟩) n c1) n l' ∧ Below w.heap.size w wr) (fun i _ => m - (intOf i).toNat)
  case atStart => exact ⟨0, l, by omega, rfl, List.Perm.refl _, HSM.out, hrow1, hb1⟩
  case round =>
    obtain ⟨i, l', hi, rfl, hpm, hsm', hrow, hb⟩ := hrel
    have HP := Lib.hid hpm
    have HS' := Lib.hid hsm'
    clear hpm hsm'
    by_cases hlt : i < m
    · have hlt' : (i : Int) < (m : Int) := by omega
      by_cases h1n : 1 < n
      · have h1n' : (1 : Int) < (n : Int) := by omega
        obtain ⟨b, o, z, -, hAP, -, hcz⟩ := Ri.get (k := i) (Rd.below hp (hb.mono hB)) (by rw [HM.out]; exact hlt)
        subst hAP
        have hz0 : ¬ (n : Int) = 0 := by omega
        have hzb : ((n : Int) == 0) = false := by rw [beq_eq_false_iff_ne]; omega
        have hz1 := Int.emod_nonneg z hz0
        have hz2 := Int.emod_lt_of_pos z (show (0 : Int) < (n : Int) by omega)
        obtain ⟨p, hp'⟩ : ∃ p : Nat, z % (n : Int) = (p : Int) := ⟨(z % (n : Int)).toNat, by omega⟩
        have hpk := fun W => kitPick z n W (by omega) (by omega)
        rw [hp'] at hpk hz1 hz2
        have hpn : p < n := by omega
        have hpn' : (p : Int) < (n : Int) := by omega
        obtain ⟨q, hq'⟩ : ∃ q : Nat, i % n = q := ⟨_, rfl⟩
        have hqn : q < n := by rw [← hq']; exact Nat.mod_lt _ (by omega)
        have hqn' : (q : Int) < (n : Int) := by omega
        have hrem : (i : Int).tmod (n : Int) = (q : Int) := by rw [← hq']; rfl
        have HPK := Lib.hid hpk
        clear hpk hp' hz1 hz2 hq'
        go_wp2_with fail
        go_quiet ((go_at_call 72; exact Calls.quiet_of_same (HPK.out _)))
        have hb1 : Below w.heap.size w (wr.drewN nq) := below_drewN hb nq
        have hrow1' := hrow.drewN nq
        obtain ⟨WX, hWX⟩ : ∃ WX, wr.drewN nq = WX := ⟨_, rfl⟩
        rw [hWX] at hb1 hrow1' ⊢
        clear hWX
        have hbd : Below w.heap.size w WX.drew := below_drewN hb1 1
        have hrowd : RowS WX.drew w.heap.size (.slice (some ⟨g, 0, none⟩) n c1) n l' := hrow1'.drewN 1
        have hlen := hrowd.len
        obtain ⟨x, hx⟩ : ∃ x, l'[p]? = some x := ⟨_, List.getElem?_eq_getElem (by rw [hlen]; exact hpn)⟩
        obtain ⟨y, hy⟩ : ∃ y, l'[q]? = some y := ⟨_, List.getElem?_eq_getElem (by rw [hlen]; exact hqn)⟩
        have hxm := List.mem_of_getElem? hx
        have hym := List.mem_of_getElem? hy
        have hlp : (loadK 27 ⟨g, p * 11, none⟩).run Try.prog WX.drew = .ok (spV x.s x.A x.n x.c) WX.drew := by
          obtain ⟨b', o', e', -, hc', -⟩ := hrowd.rbs.get hx
          cases e'
          rw [Nat.zero_add] at hc'
          exact loadK_el hc'
        have hlq : (loadK 27 ⟨g, q * 11, none⟩).run Try.prog WX.drew = .ok (spV y.s y.A y.n y.c) WX.drew := by
          obtain ⟨b', o', e', -, hc', -⟩ := hrowd.rbs.get hy
          cases e'
          rw [Nat.zero_add] at hc'
          exact loadK_el hc'
        obtain ⟨W1, hs1, hrs1, hgr1⟩ := hrowd.store hpn y (hrowd.okf hym)
        obtain ⟨W2, hs2, hrs2, hgr2⟩ := hrs1.store hqn x ((hrowd.okf hxm).grown hgr1)
        have hgw := (hrowd.own_lt g rfl).2
        have hbl : ∀ {U V : World}, U.grownBy V (some g) → w.heap.size ≤ U.heap.size → Below w.heap.size U V := fun h hs => ⟨h.os, h.tape, h.output, h.size, fun i hi => h.block i (by omega) (fun e => by have := Option.some.inj e; omega)⟩
        have hb2 : Below w.heap.size w W2 := (hbd.trans (hbl hgr1 hbd.size)).trans (hbl hgr2 (Nat.le_trans hbd.size hgr1.size))
        have hpm2 : (sps ((l'.set p y).set q x)).Perm (sps l) := by
          refine (List.Perm.map _ ?_).trans HP.out
          obtain ⟨h1, h2⟩ := List.getElem?_eq_some_iff.1 hx
          obtain ⟨h3, h4⟩ := List.getElem?_eq_some_iff.1 hy
          rw [← h2, ← h4]
          exact List.set_set_perm h1 h3
        have hsm2 : ∀ u ∈ (l'.set p y).set q x, u.n ≤ 1000000 := fun u hu => by
          rcases List.mem_or_eq_of_mem_set hu with hu | rfl
          · rcases List.mem_or_eq_of_mem_set hu with hu | rfl
            · exact HS'.out u hu
            · exact HS'.out _ hym
          · exact HS'.out _ hxm
        have HR : Hid (∃ l2 : List El, (sps l2).Perm (sps l) ∧ (∀ x ∈ l2, x.n ≤ 1000000) ∧ RowS W2 w.heap.size (.slice (some ⟨g, 0, none⟩) n c1) n l2 ∧ Below w.heap.size w W2) := ⟨_, hpm2, hsm2, hrs2, hb2⟩
        clear hpm2 hsm2 hrs1 hrs2 hb2 hgr1 hgr2 hxm hym hx hy hlen hrowd hbd hbl hrow1' hb1 hrow
        go_wp2_with fail
        go_region_with (fail)
        all_goals
          clear hlp hlq hs1 hs2
          go_wp2
          go_roundw
          case rel =>
            obtain ⟨l2, hr1, hr2, hr3, hr4⟩ := HR.out
            exact ⟨i + 1, l2, by omega, by go_num, hr1, hr2, hr3, hr4⟩
          case measure => simp [intOf]; omega
      · have h1n' : decide ((1 : Int) < (n : Int)) = false := by simp; omega
        have HX : Hid (ShufPost w n l (.returned (.slice (some ⟨g, 0, none⟩) n c1)) wr) := ⟨_, _, l', rfl, HP.out, HS'.out, hrow, hb⟩
        go_wp2
        go_ret
        exact HX.out
    · have hlt' : decide ((i : Int) < (m : Int)) = false := by simp; omega
      have HX : Hid (ShufPost w n l (.returned (.slice (some ⟨g, 0, none⟩) n c1)) wr) := ⟨_, _, l', rfl, HP.out, HS'.out, hrow, hb⟩
      go_wp2
      go_ret
      exact HX.out
end Go.Proofs.Ytohnpogoldbplaa

/- The statement SpanOrder: the order of spans is one, and Order sorts by it. The walk. -/
namespace Go.Proofs.Ytohnpogoldbplaa
open Go.RowKit
attribute [local go_sem ↓] loadK_shut

/-- A world behind W, what lay there as it was. -/
structure BelowBy (W : World) where
  w : World
  h : Below W.heap.size W w
instance (W : World) : Inhabited (BelowBy W) := ⟨⟨W, Below.refl _ _⟩⟩
theorem wp_region_quiet_below {P : Program} {id : Nat} {Q : Exit → Act → World → Prop} {a : Act} {w : World} {l : List Oper} (hm : P.follows .mixedOrders = true) (hB : Region.lexB .any l.toArray = true)
    (h : wpQuiet P l.toArray (fun w' => ∃ p : BelowBy w, w' = p.w) (fun a' => ∀ w', (∃ p : BelowBy w, w' = p.w) → Q .normal a' w') l a) : (Code.region id l.toArray true).wp P Q a w :=
  wp_region_quiet (C := fun w' => ∃ p : BelowBy w, w' = p.w) hm hB ⟨⟨w.drew, below_drewN (Below.refl _ w) 1⟩, rfl⟩ (by simpa using h)
theorem calls_belowBy {P : Program} {f : FuncId} {args : Array Value} {W : World} {v : Value} (p : BelowBy W) (h : Calls P f args p.w fun e w' => e = .returned v ∧ Below p.w.heap.size p.w w') :
    Calls P f args p.w fun e w'' => e = .returned v ∧ ∃ p' : BelowBy W, w'' = p'.w := h.mono fun _ w' ⟨he, hb⟩ => ⟨he, ⟨w', p.h.trans (hb.mono p.h.size)⟩, rfl⟩

/-- What the law was handed, and where it lies. -/
structure Sd (w0 W : World) (B g : Nat) (a b c : El) (A : Option Addr) (l : List El) (AP : Option Addr) (ps : List Int) : Prop where
  bel : Below w0.heap.size w0 W
  ea : ElOk W B a
  eb : ElOk W B b
  ec : ElOk W B c
  ba : Bk W g 27 (spC a.s a.A a.n a.c)
  bb : Bk W (g + 1) 27 (spC b.s b.A b.n b.c)
  bc : Bk W (g + 2) 27 (spC c.s c.A c.n c.c)
  rl : RbS W B A l
  rp : Ri W B AP ps
  hB : B ≤ W.heap.size
section
variable {w0 W W' : World} {B g : Nat} {a b c : El} {A AP : Option Addr} {l : List El} {ps : List Int}
theorem Sd.below (h : Sd w0 W B g a b c A l AP ps) (hb : Below W.heap.size W W') : Sd w0 W' B g a b c A l AP ps :=
  ⟨h.bel.trans (hb.mono h.bel.size), h.ea.below (hb.mono h.hB), h.eb.below (hb.mono h.hB), h.ec.below (hb.mono h.hB), h.ba.below hb h.ba.lt, h.bb.below hb h.bb.lt, h.bc.below hb h.bc.lt, h.rl.below (hb.mono h.hB), Rd.below h.rp (hb.mono h.hB), Nat.le_trans h.hB hb.size⟩
theorem Sd.cmp {x y : El} (h : Sd w0 W B g a b c A l AP ps) (hx : ElOk W B x) (hy : ElOk W B y) :
    Calls Try.prog 22 #[spV x.s x.A x.n x.c, spV y.s y.A y.n y.c] W fun e w' => e = .returned (.int .i64 (spCmp x.s y.s)) ∧ Below W.heap.size W w' :=
  spCompare x.s y.s W hx.rd hy.rd hx.len hy.len h.hB hx.max hy.max
end
theorem small_n {e : El} (h : smallB e.s 1000 = true) (hl : e.s.tags.length = e.n) : e.n ≤ 1000000 := by
  simp only [smallB, Bool.and_eq_true, decide_eq_true_eq] at h
  have := h.1.2
  omega

set_option maxRecDepth 100000 in
set_option maxHeartbeats 16000000 in
theorem spanOrder_walk {A AP : Option Addr} {cc n m cp : Nat} (a b c : El) (l : List El) (ps : List Int) (w : World) (ha : ElOk w w.heap.size a) (hb : ElOk w w.heap.size b) (hc : ElOk w w.heap.size c)
    (hl : RbS w w.heap.size A l) (hn : l.length = n) (hnl : n ≤ 9223372036854775807) (hp : Ri w w.heap.size AP ps) (hm : ps.length = m) (hml : m ≤ 9223372036854775807) :
    Calls Try.prog 6 #[spV a.s a.A a.n a.c, spV b.s b.A b.n b.c, spV c.s c.A c.n c.c, .slice A n cc, .slice AP m cp] w fun e w' => e = .returned (.bool true) ∧ Below w.heap.size w w' := by
  have hb0 : Below w.heap.size w (((w.alloc (.cells (spC a.s a.A a.n a.c) 27)).alloc (.cells (spC b.s b.A b.n b.c) 27)).alloc (.cells (spC c.s c.A c.n c.c) 27)) := (((Below.refl _ w).alloc (Nat.le_refl _) _).alloc (by simp) _).alloc (by simp; omega) _
  have bk1 := ((Bk.new w 27 (spC a.s a.A a.n a.c)).alloc (.cells (spC b.s b.A b.n b.c) 27)).alloc (.cells (spC c.s c.A c.n c.c) 27)
  have bk2 := (Bk.new (w.alloc (.cells (spC a.s a.A a.n a.c) 27)) 27 (spC b.s b.A b.n b.c)).alloc (.cells (spC c.s c.A c.n c.c) 27)
  have bk3 := Bk.new ((w.alloc (.cells (spC a.s a.A a.n a.c) 27)).alloc (.cells (spC b.s b.A b.n b.c) 27)) 27 (spC c.s c.A c.n c.c)
  rw [World.size_alloc] at bk2
  rw [World.size_alloc, World.size_alloc] at bk3
  have sd : Sd w (((w.alloc (.cells (spC a.s a.A a.n a.c) 27)).alloc (.cells (spC b.s b.A b.n b.c) 27)).alloc (.cells (spC c.s c.A c.n c.c) 27)) w.heap.size w.heap.size a b c A l AP ps :=
    ⟨hb0, ha.below hb0, hb.below hb0, hc.below hb0, bk1, bk2, bk3, hl.below hb0, Rd.below hp hb0, hb0.size⟩
  obtain ⟨w1, hw1⟩ : ∃ w1, ((w.alloc (.cells (spC a.s a.A a.n a.c) 27)).alloc (.cells (spC b.s b.A b.n b.c) 27)).alloc (.cells (spC c.s c.A c.n c.c) 27) = w1 := ⟨_, rfl⟩
  rw [hw1] at sd
  have HW := Lib.hid hw1
  obtain ⟨B, hB⟩ : ∃ B, w.heap.size = B := ⟨_, rfl⟩
  rw [hB] at sd
  have HBB := Lib.hid hB
  have HN := Lib.hid hn
  have HM := Lib.hid hm
  have HAN := Lib.hid (And.intro ha.len (And.intro hb.len hc.len))
  have HAX := Lib.hid (And.intro ha.max (And.intro hb.max hc.max))
  clear hw1 hB hn hm ha hb hc hl hp hb0 bk1 bk2 bk3
  go_enter Try.func6, Try.ntmps6
  go_upto_region 1 with fail
  rw [HW.out, HBB.out]
  go_wp2_with fail
  refine (lawLives w1).mono ?_
  rintro e w2 ⟨rfl, hb⟩
  have sd := sd.below hb
  clear hb
  have la := loadK_sp sd.ba
  have lb := loadK_sp sd.bb
  have lc := loadK_sp sd.bc
  go_wp2_with fail
  refine (kitSmalls (B := w2.heap.size + 1) (l := [a, b, c]) (n := 3) 3 1000 _ ⟨Rd.lit' rfl, fun e he => ?_⟩ rfl (by simp) (by decide) (by decide)).mono ?_
  · have hbx := (Below.refl _ w2).alloc (Nat.le_refl _)
    have hall : ∀ o, ElOk (w2.alloc o) (w2.heap.size + 1) a ∧ ElOk (w2.alloc o) (w2.heap.size + 1) b ∧ ElOk (w2.alloc o) (w2.heap.size + 1) c := fun o =>
      have h := sd.hB
      ⟨(sd.ea.below ((hbx o).mono h)).more (by omega), (sd.eb.below ((hbx o).mono h)).more (by omega), (sd.ec.below ((hbx o).mono h)).more (by omega)⟩
    simp only [List.mem_cons, List.not_mem_nil, or_false] at he
    rcases he with rfl | rfl | rfl
    · exact (hall _).1
    · exact (hall _).2.1
    · exact (hall _).2.2
  rintro e w4 ⟨q1, rfl, hb4, hq1⟩
  have sd := sd.below (((Below.refl _ w2).alloc (Nat.le_refl _) _).trans (hb4.mono (by simp)))
  clear hb4 la lb lc
  cases q1 with
  | false =>
    go_wp2
    go_ret
    exact ⟨rfl, sd.bel⟩
  | true =>
  clear hq1
  go_wp2_with fail
  refine (kitSmalls (c := cc) 100 1000 w4 sd.rl HN.out sd.hB hnl (by decide)).mono ?_
  rintro e w5 ⟨q2, rfl, hb5, hq2⟩
  have sd := sd.below hb5
  clear hb5
  cases q2 with
  | false =>
    go_wp2
    go_ret
    exact ⟨rfl, sd.bel⟩
  | true =>
  obtain ⟨hlen, hsm⟩ := hq2 rfl
  rw [HN.out] at hlen
  have hn100 : n ≤ 100 := by omega
  have hsmn : ∀ e ∈ l, e.n ≤ 1000000 := fun e he => small_n (hsm e he) (sd.rl.ok e he).len
  have HSM := Lib.hid hsmn
  clear hq2 hsm hsmn hlen
  go_wp2_with fail
  go_cut [68] from 27 to 69 (fun v W => v = .bool false ∧ Sd w W B B a b c A l AP ps)
  case first =>
    have HLA : Hid (∀ p : BelowBy w5, (loadK 27 ⟨B, 0, none⟩).run Try.prog p.w = .ok (spV a.s a.A a.n a.c) p.w) := fun p => loadK_sp (sd.below p.h).ba
    have la := HLA.out
    have lb : ∀ p : BelowBy w5, (loadK 27 ⟨B + 1, 0, none⟩).run Try.prog p.w = .ok (spV b.s b.A b.n b.c) p.w := fun p => loadK_sp (sd.below p.h).bb
    have lc : ∀ p : BelowBy w5, (loadK 27 ⟨B + 1 + 1, 0, none⟩).run Try.prog p.w = .ok (spV c.s c.A c.n c.c) p.w := fun p => loadK_sp (sd.below p.h).bc
    have haa : ∀ p : BelowBy w5, Calls Try.prog 22 #[spV a.s a.A a.n a.c, spV a.s a.A a.n a.c] p.w fun e w' => e = .returned (.int .i64 0) ∧ ∃ p' : BelowBy w5, w' = p'.w := fun p => calls_belowBy p (by
      have h := (sd.below p.h).cmp (sd.below p.h).ea (sd.below p.h).ea
      rwa [(spCmp_cmp.eq a.s a.s).2 rfl] at h)
    have hab : ∀ p : BelowBy w5, Calls Try.prog 22 #[spV a.s a.A a.n a.c, spV b.s b.A b.n b.c] p.w fun e w' => e = .returned (.int .i64 (spCmp a.s b.s)) ∧ ∃ p' : BelowBy w5, w' = p'.w := fun p => calls_belowBy p ((sd.below p.h).cmp (sd.below p.h).ea (sd.below p.h).eb)
    have hba : ∀ p : BelowBy w5, Calls Try.prog 22 #[spV b.s b.A b.n b.c, spV a.s a.A a.n a.c] p.w fun e w' => e = .returned (.int .i64 (- spCmp a.s b.s)) ∧ ∃ p' : BelowBy w5, w' = p'.w := fun p => calls_belowBy p (by
      have h := (sd.below p.h).cmp (sd.below p.h).eb (sd.below p.h).ea
      rwa [show spCmp b.s a.s = - spCmp a.s b.s from by have := spCmp_cmp.neg b.s a.s; omega] at h)
    have hbc : ∀ p : BelowBy w5, Calls Try.prog 22 #[spV b.s b.A b.n b.c, spV c.s c.A c.n c.c] p.w fun e w' => e = .returned (.int .i64 (spCmp b.s c.s)) ∧ ∃ p' : BelowBy w5, w' = p'.w := fun p => calls_belowBy p ((sd.below p.h).cmp (sd.below p.h).eb (sd.below p.h).ec)
    have hac : ∀ p : BelowBy w5, Calls Try.prog 22 #[spV a.s a.A a.n a.c, spV c.s c.A c.n c.c] p.w fun e w' => e = .returned (.int .i64 (spCmp a.s c.s)) ∧ ∃ p' : BelowBy w5, w' = p'.w := fun p => calls_belowBy p ((sd.below p.h).cmp (sd.below p.h).ea (sd.below p.h).ec)
    have hsa : ∀ p : BelowBy w5, Calls Try.prog 11 #[spV a.s a.A a.n a.c, spV b.s b.A b.n b.c] p.w fun e w' => e = .returned (.bool (decide (a.s = b.s))) ∧ ∃ p' : BelowBy w5, w' = p'.w := fun p => calls_belowBy p (by
      have s := sd.below p.h
      exact kitSame a.s b.s p.w s.ea.rd s.eb.rd s.ea.len s.eb.len s.hB s.ea.max s.eb.max)
    have hr := spCmp_cmp.rng a.s b.s
    have he := spCmp_cmp.eq a.s b.s
    have hle := fun h1 h2 => spCmp_cmp.le (a := a.s) (b := b.s) (c := c.s) h1 h2
    have hs0 : spCmp a.s b.s = 0 → decide (a.s = b.s) = true := fun h => decide_eq_true (he.1 h)
    have hs1 : spCmp a.s b.s ≠ 0 → decide (a.s = b.s) = false := fun h => decide_eq_false fun e => h (he.2 e)
    obtain ⟨x, hx⟩ : ∃ x, spCmp a.s b.s = x := ⟨_, rfl⟩
    obtain ⟨y, hy⟩ : ∃ y, spCmp b.s c.s = y := ⟨_, rfl⟩
    obtain ⟨z, hz⟩ : ∃ z, spCmp a.s c.s = z := ⟨_, rfl⟩
    obtain ⟨k, hk⟩ : ∃ k, decide (a.s = b.s) = k := ⟨_, rfl⟩
    rw [hx] at hab hba hr hle hs0 hs1
    rw [hy] at hbc hle
    rw [hz] at hac hle
    rw [hk] at hsa hs0 hs1
    have HAA := Lib.hid haa
    have HAB := Lib.hid hab
    have HBA := Lib.hid hba
    have HBC := Lib.hid hbc
    have HAC := Lib.hid hac
    have HSA := Lib.hid hsa
    have HSD : Hid (∀ p : BelowBy w5, Sd w p.w B B a b c A l AP ps) := fun p => sd.below p.h
    have hcs : (x = 1 ∧ k = false) ∨ (x = 0 ∧ k = true) ∨ (x = -1 ∧ k = false) := by
      have h3 : x = 1 ∨ x = 0 ∨ x = -1 := by omega
      rcases h3 with h | h | h
      · exact .inl ⟨h, hs1 (by omega)⟩
      · exact .inr (.inl ⟨h, hs0 h⟩)
      · exact .inr (.inr ⟨h, hs1 (by omega)⟩)
    have hyz : (y ≤ 0 ∧ (x ≤ 0 → z ≤ 0)) ∨ 0 < y := by
      by_cases h : y ≤ 0
      · exact .inl ⟨h, fun h' => hle h' h⟩
      · exact .inr (by omega)
    clear haa hab hba hbc hac hsa he hs0 hs1 hx hy hz hk hr hle sd
    rcases hcs with ⟨rfl, rfl⟩ | ⟨rfl, rfl⟩ | ⟨rfl, rfl⟩
    · clear hyz
      refine wp_region_quiet_below (by kernel_rfl) (by kernel_rfl) ?_
      repeat (quiet_step ((first | (go_at_call 22; first | with_reducible exact HAA.out _ | with_reducible exact HAB.out _ | with_reducible exact HBA.out _ | with_reducible exact HBC.out _ | with_reducible exact HAC.out _) | (go_at_call 11; with_reducible exact HSA.out _))))
      refine wpQuiet_nil ?_
      rintro _ ⟨pq, rfl⟩
      go_wp2_with fail
      go_meet
      exact ⟨rfl, HSD.out pq⟩
    · rcases hyz with ⟨hy, hxz⟩ | hy
      · have hz := hxz (by omega)
        have hzd : decide (0 < z) = false := by simp; omega
        clear hxz
        refine wp_region_quiet_below (by kernel_rfl) (by kernel_rfl) ?_
        repeat (quiet_step ((first | (go_at_call 22; first | with_reducible exact HAA.out _ | with_reducible exact HAB.out _ | with_reducible exact HBA.out _ | with_reducible exact HBC.out _ | with_reducible exact HAC.out _) | (go_at_call 11; with_reducible exact HSA.out _))))
        refine wpQuiet_nil ?_
        rintro _ ⟨pq, rfl⟩
        go_wp2_with fail
        go_meet
        exact ⟨rfl, HSD.out pq⟩
      · have hyd : decide (y ≤ 0) = false := by simp; omega
        refine wp_region_quiet_below (by kernel_rfl) (by kernel_rfl) ?_
        repeat (quiet_step ((first | (go_at_call 22; first | with_reducible exact HAA.out _ | with_reducible exact HAB.out _ | with_reducible exact HBA.out _ | with_reducible exact HBC.out _ | with_reducible exact HAC.out _) | (go_at_call 11; with_reducible exact HSA.out _))))
        refine wpQuiet_nil ?_
        rintro _ ⟨pq, rfl⟩
        go_wp2_with fail
        go_meet
        exact ⟨rfl, HSD.out pq⟩
    · rcases hyz with ⟨hy, hxz⟩ | hy
      · have hz := hxz (by omega)
        have hzd : decide (0 < z) = false := by simp; omega
        clear hxz
        refine wp_region_quiet_below (by kernel_rfl) (by kernel_rfl) ?_
        repeat (quiet_step ((first | (go_at_call 22; first | with_reducible exact HAA.out _ | with_reducible exact HAB.out _ | with_reducible exact HBA.out _ | with_reducible exact HBC.out _ | with_reducible exact HAC.out _) | (go_at_call 11; with_reducible exact HSA.out _))))
        refine wpQuiet_nil ?_
        rintro _ ⟨pq, rfl⟩
        go_wp2_with fail
        go_meet
        exact ⟨rfl, HSD.out pq⟩
      · have hyd : decide (y ≤ 0) = false := by simp; omega
        refine wp_region_quiet_below (by kernel_rfl) (by kernel_rfl) ?_
        repeat (quiet_step ((first | (go_at_call 22; first | with_reducible exact HAA.out _ | with_reducible exact HAB.out _ | with_reducible exact HBA.out _ | with_reducible exact HBC.out _ | with_reducible exact HAC.out _) | (go_at_call 11; with_reducible exact HSA.out _))))
        refine wpQuiet_nil ?_
        rintro _ ⟨pq, rfl⟩
        go_wp2_with fail
        go_meet
        exact ⟨rfl, HSD.out pq⟩
  case rest =>
    obtain ⟨rfl, sd⟩ := hcut
    go_wp2_with fail
    refine (spOrder (c := cc) wc sd.rl HN.out sd.hB (by omega) HSM.out).mono ?_
    rintro e w6 ⟨A1, c1, l1, rfl, hs1, hr1, hb1⟩
    have sd := sd.below hb1
    clear hb1
    go_wp2_with fail
    refine (kitShuf (c := cc) (cp := cp) w6 sd.rl HN.out sd.hB (by omega) HSM.out sd.rp HM.out hml).mono ?_
    rintro e w7 ⟨A2, c2, l2, rfl, hp2, hx2, hr2, hb2⟩
    have sd := sd.below hb2
    have hr1 := hr1.bS hb2
    clear hb2
    go_wp2_with fail
    refine (spOrder (c := c2) (l := l2) (B := w7.heap.size) w7 hr2.rbs hr2.len (Nat.le_refl _) (by omega) hx2).mono ?_
    rintro e w8 ⟨A3, c3, l3, rfl, hs3, hr3, hb3⟩
    have sd := sd.below hb3
    have hr1 := hr1.bS hb3
    have heq : sps l1 = sps l3 := by rw [hs1, hs3, ordS_same hp2]
    have HS1 := Lib.hid hs1
    have HEQ := Lib.hid heq
    clear hb3 hr2 hx2 hp2 hs1 hs3 heq
    go_wp2_with fail
    refine (kitSames (c1 := c1) (c2 := c3) (B := w8.heap.size) w8 hr1.rbs hr3.rbs hr1.len hr3.len (Nat.le_refl _) (by omega) (by omega)).mono ?_
    rintro e w9 ⟨rfl, hb4⟩
    rw [decide_eq_true HEQ.out]
    have sd := sd.below hb4
    have hr1 := hr1.bS hb4
    clear hb4 hr3 HEQ
    go_wp2
    go_loopw [13] (fun iv_ wr => ∃ i : Nat, 1 ≤ i ∧ i ≤ n + 1 ∧ iv_ = .int .i64 i ∧ Below w9.heap.size w9 wr) (fun i _ => n + 1 - (intOf i).toNat)
    case atStart => exact ⟨1, by omega, by omega, rfl, Below.refl _ _⟩
    case round =>
      obtain ⟨i, hi1, hi2, rfl, hb⟩ := hrel
      by_cases hlt : i < n
      · have hlt' : (i : Int) < (n : Int) := by omega
        obtain ⟨kk, hkk⟩ : ∃ kk, kk + 1 = i := ⟨i - 1, by omega⟩
        have hsubw : IntKind.i64.wrap ((i : Int) - 1) = (kk : Int) := by simp [IntKind.wrap, IntKind.bits, IntKind.signed]; omega
        have hkn : (kk : Int) < (n : Int) := by omega
        have hkn' : kk < n := by omega
        have hbd : Below w9.heap.size w9 wr.drew := below_drewN hb 1
        have hrd := hr1.bS hbd
        obtain ⟨x, hx⟩ : ∃ x, l1[kk]? = some x := ⟨_, List.getElem?_eq_getElem (by rw [hr1.len]; exact hkn')⟩
        obtain ⟨y, hy⟩ : ∃ y, l1[i]? = some y := ⟨_, List.getElem?_eq_getElem (by rw [hr1.len]; exact hlt)⟩
        have HX := Lib.hid hx
        have HY := Lib.hid hy
        obtain ⟨b1, o1, hA1, -, -, hok1⟩ := hrd.rbs.get hx
        subst hA1
        obtain ⟨-, -, -, -, -, hok2⟩ := hrd.rbs.get hy
        have HL : Hid (∀ {W : World}, Below w9.heap.size w9 W → (loadK 27 ⟨b1, o1 + kk * 11, none⟩).run Try.prog W = .ok (spV x.s x.A x.n x.c) W ∧ (loadK 27 ⟨b1, o1 + i * 11, none⟩).run Try.prog W = .ok (spV y.s y.A y.n y.c) W) := fun {W} hW => by
          have hr := (hr1.bS hW).rbs
          obtain ⟨b', o', e', -, hc', -⟩ := hr.get HX.out
          cases e'
          obtain ⟨b', o', e', -, hc2', -⟩ := hr.get HY.out
          cases e'
          exact ⟨loadK_el hc', loadK_el hc2'⟩
        obtain ⟨hld1, hld2⟩ := HL.out hbd
        have hcm := spCompare (c1 := x.c) (c2 := y.c) x.s y.s wr.drew hok1.rd hok2.rd hok1.len hok2.len (Nat.le_refl _) hok1.max hok2.max
        have hle : spCmp x.s y.s ≤ 0 := by
          have hso : SortedS (sps l1) := by rw [HS1.out]; exact ordS_sorted _
          have e1 := sps_get hx
          have e2 := sps_get hy
          obtain ⟨h1, h2⟩ := List.getElem?_eq_some_iff.1 e1
          obtain ⟨h3, h4⟩ := List.getElem?_eq_some_iff.1 e2
          have h5 := (List.pairwise_iff_getElem.1 hso) kk i h1 h3 (by omega)
          rwa [h2, h4] at h5
        obtain ⟨cv, hcv⟩ : ∃ cv, spCmp x.s y.s = cv := ⟨_, rfl⟩
        rw [hcv] at hcm hle
        have hcvd : decide (0 < cv) = false := by simp; omega
        have HCM := Lib.hid hcm
        clear hcm hcv hle hok1 hok2 hx hy hrd hkk
        go_wp2_with fail
        go_region_held3 (fun w' => (loadK 27 ⟨b1, o1 + kk * 11, none⟩).run Try.prog w' = .ok (spV x.s x.A x.n x.c) w' ∧ (loadK 27 ⟨b1, o1 + i * 11, none⟩).run Try.prog w' = .ok (spV y.s y.A y.n y.c) w')
          (first | exact ⟨hld1, hld2⟩ | exact hle2)
          (first
            | (go_at_call 22
               refine HCM.out.mono ?_
               rintro e w5 ⟨rfl, hb5⟩
               have hb05 := hbd.trans (hb5.mono hbd.size)
               have hle2 := HL.out hb05)
            | fail)
        clear hld1 hld2 hle2
        go_wp2
        go_roundw
        case rel => exact ⟨i + 1, by omega, by omega, by go_num, hb05⟩
        case measure => simp [intOf]; omega
      · have hlt' : decide ((i : Int) < (n : Int)) = false := by simp; omega
        have sd := sd.below hb
        have hr1 := hr1.bS hb
        clear hb
        go_wp2_with fail
        refine (rOrder (c := cc) wr sd.rl HN.out sd.hB (by omega) HSM.out).mono ?_
        rintro e w10 ⟨A4, c4, l4, rfl, hs4, hr4, hb5⟩
        have sd := sd.below hb5
        have hr1 := hr1.bS hb5
        clear hb5
        go_wp2_with fail
        refine (kitSames (c1 := c1) (c2 := c4) (B := w10.heap.size) w10 hr1.rbs hr4.rbs hr1.len hr4.len (Nat.le_refl _) (by omega) (by omega)).mono ?_
        rintro e w11 ⟨rfl, hb6⟩
        rw [decide_eq_true (HS1.out.trans hs4.symm)]
        have sd := sd.below hb6
        go_wp2
        go_ret
        exact ⟨rfl, sd.bel⟩
end Go.Proofs.Ytohnpogoldbplaa

/- What comes in, read as the walks want it. -/
namespace Go.Proofs.Ytohnpogoldbplaa
open Go.ChangeShapes Go.WideShapes Go.ChangeAt Go.RowKit

theorem ownKnob_none : ownKnob Try.prog.godebug = none := by kernel_rfl
theorem laidOut : laidOutB Try.prog = true := by kernel_rfl

/-- What a walk is told of a slice of bytes that came in. -/
structure InB (w : World) (A : Option Addr) (n c : Nat) (zs : List Int) : Prop where
  rd : Rb w w.heap.size A zs
  len : zs.length = n
  cap : n ≤ c
  max : c ≤ maxLen
  byt : Byt zs
  nil : A = none → c = 0

theorem byte_wf {x : Int} (h : (Lit.int .u8 x).wf = true) : 0 ≤ x ∧ x ≤ 255 := by
  simp [Lit.wf, IntKind.min, IntKind.max, IntKind.signed, IntKind.bits] at h
  omega

theorem open_inB {H : Type} {enc : TypeId × Value → H} {W : World} {base : Nat} {held : Bool} {d : DataW H} {p : List MemPlace} {a : Option Addr} {len cap : Nat}
    (h : DataW.Trod enc Try.prog W base (fun _ => true) held 28 (.slice a len cap) d p) : ∃ zs, InB W a len cap zs := by
  obtain ⟨fuel, hf⟩ := h
  rcases open_ints Try.underlying28 Try.underlying5 (by kernel_rfl) hf with ⟨hcs, _⟩ | ⟨x, l, c, zs, hcs, _, hl, hm, hz, _, hcell, hwz⟩
  · simp [Value.cells] at hcs
    obtain ⟨rfl, rfl, rfl⟩ := hcs
    exact ⟨[], Rd.nil, rfl, Nat.le_refl _, by simp [maxLen], fun x hx => by simp at hx, fun _ => rfl⟩
  · simp [Value.cells] at hcs
    obtain ⟨rfl, rfl, rfl⟩ := hcs
    have hz : zs.length = cap := by simpa using hz
    refine ⟨zs.take len, ?_, by simp; omega, hl, hm, fun y hy => byte_wf (hwz y (List.mem_of_mem_take hy)), fun h => by cases h⟩
    intro hn
    have hpos : 0 < zs.length := by
      rcases Nat.eq_zero_or_pos zs.length with h0 | h0
      · rw [List.eq_nil_of_length_eq_zero h0] at hn; simp [bv] at hn
      · exact h0
    obtain ⟨b, off, spot⟩ := x
    have hc := hcell 0 hpos
    have hspot : spot = none := by simpa [Addr.add] using World.cell?_spot hc
    subst hspot
    refine ⟨b, off, rfl, World.block_lt_of_cell? W ⟨b, off, none⟩ (by simpa [Addr.add] using hc), fun j u hu => ?_⟩
    rw [← bv_take, List.getElem?_take] at hu
    split at hu
    · have hj : j < zs.length := by
        have := (List.getElem?_eq_some_iff.1 hu).1
        simpa [bv] using this
      have h2 := hcell j hj
      rw [Addr.add_lit] at h2
      rw [h2, ← hu]
      simp [bv, List.getD, hj]
    · cases hu
end Go.Proofs.Ytohnpogoldbplaa
