/- Texts of the proof of AdjustTreeSaid, joined: RTr SrC SrD SoG RaQ AdP Row AeP. -/
import Derived.Test.YtchpekidnbdpdaaJAdjustTree1
import Derived.Test.YtchpekidnbdpdaaJAdjustTree2
import Derived.Deep.Cut
import Derived.Deep.RegionHeld3
import Derived.Deep.QuietTactic
import Derived.Laws.ResultCell
import Derived.Test.YtchpekidnbdpdaaJAdjustTree6
import Derived.Deep.RegionWith
import Derived.BigRegion
import Derived.BigQuiet
import Derived.Test.YtchpekidnbdpdaaJAdjustTree7
import Derived.Laws.Rows
import Derived.Laws.Tables
/- The document's truth: bootprintref17.truth. -/
namespace Go.Proofs.Ytchpekidnbdpdaa
open Go.RowKit
theorem rTruth (w : World) (b : Bool) : Calls Try.prog 68 #[.bool b] w fun e w' => e = .returned (.int .i64 (if b = true then 1 else 0)) ∧ w' = w := by
  cases b
  · go_enter Try.func68, Try.ntmps68
    go_wp2
    go_ret
    exact ⟨rfl, rfl⟩
  · go_enter Try.func68, Try.ntmps68
    go_wp2
    go_ret
    exact ⟨rfl, rfl⟩

end Go.Proofs.Ytchpekidnbdpdaa


/- Spans, the document's answer: the order of two numbers, texts, lists of tags. -/
namespace Go.Proofs.Ytchpekidnbdpdaa
open Go.RowKit

theorem rNumber (x y : Int) (w : World) : Calls Try.prog 65 #[.int .u64 x, .int .u64 y] w fun e w' => e = .returned (.int .i64 (cmpI x y)) ∧ w' = w := by
  by_cases h1 : x < y
  · rw [show cmpI x y = -1 from by rw [cmpI, if_pos h1]]
    go_enter Try.func65, Try.ntmps65
    go_wp2
    go_ret
    exact ⟨rfl, rfl⟩
  · by_cases h2 : y < x
    · rw [show cmpI x y = 1 from by rw [cmpI, if_neg h1, if_pos h2]]
      go_enter Try.func65, Try.ntmps65
      go_wp2
      go_ret
      exact ⟨rfl, rfl⟩
    · rw [show cmpI x y = 0 from by rw [cmpI, if_neg h1, if_neg h2]]
      go_enter Try.func65, Try.ntmps65
      go_wp2
      go_ret
      exact ⟨rfl, rfl⟩
theorem rSigned (x y : Int) (w : World) : Calls Try.prog 66 #[.int .i64 x, .int .i64 y] w fun e w' => e = .returned (.int .i64 (cmpI x y)) ∧ w' = w := by
  by_cases h1 : x < y
  · rw [show cmpI x y = -1 from by rw [cmpI, if_pos h1]]
    go_enter Try.func66, Try.ntmps66
    go_wp2
    go_ret
    exact ⟨rfl, rfl⟩
  · by_cases h2 : y < x
    · rw [show cmpI x y = 1 from by rw [cmpI, if_neg h1, if_pos h2]]
      go_enter Try.func66, Try.ntmps66
      go_wp2
      go_ret
      exact ⟨rfl, rfl⟩
    · rw [show cmpI x y = 0 from by rw [cmpI, if_neg h1, if_neg h2]]
      go_enter Try.func66, Try.ntmps66
      go_wp2
      go_ret
      exact ⟨rfl, rfl⟩
theorem rTextC (s t : ByteArray) (w : World) : Calls Try.prog 67 #[.string s, .string t] w fun e w' => e = .returned (.int .i64 (cmpS s t)) ∧ w' = w := by
  rcases strLt_ways s t with ⟨h1, h3⟩ | ⟨h1, h2, h3⟩ | ⟨h1, h2, h3⟩
  · rw [h3]
    unfold strLt at h1
    clear h3
    go_enter Try.func67, Try.ntmps67
    go_wp2
    go_ret
    exact ⟨rfl, rfl⟩
  · rw [h3]
    have e0 : (s.toList == t.toList) = false := by
      rw [strEq_of', decide_eq_false_iff_not]
      rintro rfl
      rw [h1] at h2
      cases h2
    unfold strLt at h1 h2
    clear h3
    go_enter Try.func67, Try.ntmps67
    go_wp2
    go_ret
    exact ⟨rfl, rfl⟩
  · rw [h3]
    have e0 : (s.toList == t.toList) = true := by
      rw [strEq_of', decide_eq_true_iff]
      rw [strLt_ltb] at h1 h2
      exact nums_inj (ltb_tri _ _ h1 h2)
    unfold strLt at h1 h2
    clear h3
    go_enter Try.func67, Try.ntmps67
    go_wp2
    go_ret
    exact ⟨rfl, rfl⟩
set_option maxRecDepth 100000 in
set_option maxHeartbeats 2000000 in
theorem rTags {A1 A2 : Option Addr} {c1 c2 n m B : Nat} {la lb : List Tg} (w : World) (hf : RbT w B A1 la) (hg : RbT w B A2 lb) (hn : la.length = n) (hm : lb.length = m) (hnl : n ≤ 9223372036854775807) (hml : m ≤ 9223372036854775807) :
    Calls Try.prog 69 #[.slice A1 n c1, .slice A2 m c2] w fun e w' => e = .returned (.int .i64 (cmpTL la lb)) ∧ ∃ d, w' = w.drewN d := by
  have HN := Lib.hid hn
  have HM := Lib.hid hm
  obtain ⟨q, hq⟩ : ∃ q, cmpTL la lb = q := ⟨_, rfl⟩
  rw [hq]
  have HQ := Lib.hid hq
  clear hn hm hq
  go_enter Try.func69, Try.ntmps69
  go_wp2
  go_loopw [5, 6] (fun iv_ _ wr => ∃ j : Nat, j ≤ n ∧ j ≤ m ∧ iv_ = .int .i64 j ∧ cmpTL (la.drop j) (lb.drop j) = q ∧ ∃ d, wr = w.drewN d) (fun i _ _ => n - (intOf i).toNat)
  case atStart => exact ⟨0, by omega, by omega, rfl, HQ.out, 0, rfl⟩
  case round =>
    obtain ⟨j, hj, hjm, rfl, hd, d, rfl⟩ := hrel
    have HD := Lib.hid hd
    clear hd
    by_cases hlt : j < n
    · have hlt' : (j : Int) < (n : Int) := by omega
      by_cases hlm : j < m
      · have hlm2 : (j : Int) < (m : Int) := by omega
        obtain ⟨x, hx⟩ : ∃ x, la[j]? = some x := ⟨_, List.getElem?_eq_getElem (by rw [HN.out]; exact hlt)⟩
        obtain ⟨b1, o1, rfl, hbb1, c11, c12⟩ := RbT.get hf hx
        obtain ⟨y, hy⟩ : ∃ y, lb[j]? = some y := ⟨_, List.getElem?_eq_getElem (by rw [HM.out]; exact hlm)⟩
        obtain ⟨b2, o2, rfl, hbb2, c21, c22⟩ := RbT.get hg hy
        have hst := cmpTL_step hx hy
        rw [HD.out, cmpTg, orL2] at hst
        obtain ⟨u, hu⟩ : ∃ u, cmpS x.key y.key = u := ⟨_, rfl⟩
        obtain ⟨v, hv⟩ : ∃ v, cmpS x.val y.val = v := ⟨_, rfl⟩
        have hc1 := fun W => rTextC x.key y.key W
        have hc2 := fun W => rTextC x.val y.val W
        rw [hu] at hst hc1
        rw [hv] at hst hc2
        have HST := Lib.hid hst
        have HC1 := Lib.hid hc1
        have HC2 := Lib.hid hc2
        clear hst hc1 hc2 hu hv hx hy hbb1 hbb2
        go_wp2_with fail
        by_cases h0 : u = 0
        · subst h0
          by_cases h1 : v = 0
          · subst h1
            have hd := HST.out
            simp only [ne_eq, not_true, if_false] at hd
            have HD2 := Lib.hid hd
            clear hd
            go_quiet ((go_at_call 67; go_loud (exact (HC1.out _).mono (fun _ _ h => ⟨h.1, _, h.2⟩))))
            go_wp2_with fail
            go_quiet ((go_at_call 67; go_loud (exact (HC2.out _).mono (fun _ _ h => ⟨h.1, _, h.2⟩))))
            go_wp2_with fail
            go_roundw
            case rel => exact ⟨j + 1, by omega, by omega, by go_num, HD2.out.symm, _, rfl⟩
            case measure => simp [intOf]; omega
          · have hxb : (v != 0) = true := by simp [h1]
            have hd := HST.out
            simp only [ne_eq, not_true, if_false, h1, not_false_eq_true, if_true] at hd
            have HD2 := Lib.hid hd
            clear hd
            go_quiet ((go_at_call 67; go_loud (exact (HC1.out _).mono (fun _ _ h => ⟨h.1, _, h.2⟩))))
            go_wp2_with fail
            go_quiet ((go_at_call 67; go_loud (exact (HC2.out _).mono (fun _ _ h => ⟨h.1, _, h.2⟩))))
            go_wp2_with fail
            go_ret
            exact ⟨by rw [HD2.out]; rfl, _, rfl⟩
        · have hxb : (u != 0) = true := by simp [h0]
          have hxc : (u == 0) = false := by simp [h0]
          have hd := HST.out
          simp only [ne_eq, h0, not_false_eq_true, if_true] at hd
          have HD2 := Lib.hid hd
          clear hd
          go_quiet ((go_at_call 67; go_loud (exact (HC1.out _).mono (fun _ _ h => ⟨h.1, _, h.2⟩))))
          go_wp2_with fail
          go_ret
          exact ⟨by rw [HD2.out]; rfl, _, rfl⟩
      · have hlm2 : decide ((j : Int) < (m : Int)) = false := by simp; omega
        have hq1 : q = cmpI (n : Int) (m : Int) := by
          rw [← HD.out, show lb.drop j = [] from List.drop_eq_nil_of_le (by rw [HM.out]; omega), List.drop_eq_getElem_cons (by rw [HN.out]; exact hlt), cmpTL, cmpI, if_neg (by omega), if_pos (by omega)]
        have HQ1 := Lib.hid hq1
        clear hq1
        go_wp2_with (go_at_call 66; refine (rSigned _ _ _).mono ?_; rintro e w' ⟨rfl, hw⟩; rw [hw]; clear hw w')
        go_ret
        exact ⟨by rw [HQ1.out]; rfl, d, rfl⟩
    · have hlt' : decide ((j : Int) < (n : Int)) = false := by simp; omega
      obtain rfl : j = n := by omega
      have hq1 : q = cmpI (j : Int) (m : Int) := by
        rw [← HD.out, show la.drop j = [] from List.drop_eq_nil_of_le (by rw [HN.out]; omega)]
        by_cases hlm : j < m
        · rw [List.drop_eq_getElem_cons (by rw [HM.out]; exact hlm), cmpTL, cmpI, if_pos (by omega)]
        · rw [List.drop_eq_nil_of_le (by rw [HM.out]; omega), cmpTL, cmpI, if_neg (by omega), if_neg (by omega)]
      have HQ1 := Lib.hid hq1
      clear hq1
      go_wp2_with (go_at_call 66; refine (rSigned _ _ _).mono ?_; rintro e w' ⟨rfl, hw⟩; rw [hw]; clear hw w')
      go_ret
      exact ⟨by rw [HQ1.out]; rfl, d, rfl⟩
end Go.Proofs.Ytchpekidnbdpdaa


/- Spans, the document's answer: Compare. -/
namespace Go.Proofs.Ytchpekidnbdpdaa
open Go.RowKit

theorem orL_nest (x y : Int) (l : List Int) : orL (orL [x, y] :: l) = orL (x :: y :: l) := by
  simp only [orL]
  by_cases h : x = 0
  · subst h
    by_cases h2 : y = 0 <;> simp [h2]
  · simp [h]
theorem orL_none {l : List Int} {j : Nat} (h : l.length ≤ j) : orL (l.drop j) = 0 := by rw [List.drop_eq_nil_of_le h]; rfl

set_option maxRecDepth 100000 in
set_option maxHeartbeats 8000000 in
theorem rCompare {A1 A2 : Option Addr} {c1 c2 n m B : Nat} (a b : Sp) (w : World) (hf : RbT w B A1 a.tags) (hg : RbT w B A2 b.tags) (hn : a.tags.length = n) (hm : b.tags.length = m) (hB : B ≤ w.heap.size) (hnl : n ≤ 9223372036854775807) (hml : m ≤ 9223372036854775807) :
    Calls Try.prog 41 #[spV a A1 n c1, spV b A2 m c2] w fun e w' => e = .returned (.int .i64 (spCmp a b)) ∧ Below w.heap.size w w' := by
  have hb0 : Below w.heap.size w ((w.alloc (.cells (spC a A1 n c1) 32)).alloc (.cells (spC b A2 m c2) 32)) := ((Below.refl _ w).alloc (Nat.le_refl _) _).alloc (by simp) _
  have hff := Rd.below hf (hb0.mono hB)
  have hgg := Rd.below hg (hb0.mono hB)
  have bk1 := (Bk.new w 32 (spC a A1 n c1)).alloc (.cells (spC b A2 m c2) 32)
  have bk2 := Bk.new (w.alloc (.cells (spC a A1 n c1) 32)) 32 (spC b A2 m c2)
  rw [World.size_alloc] at bk2
  have hs1 : ((w.alloc (.cells (spC a A1 n c1) 32)).alloc (.cells (spC b A2 m c2) 32)).heap.size = w.heap.size + 2 := by simp
  obtain ⟨W, hW⟩ : ∃ W, (w.alloc (.cells (spC a A1 n c1) 32)).alloc (.cells (spC b A2 m c2) 32) = W := ⟨_, rfl⟩
  rw [hW] at hb0 hff hgg bk1 bk2 hs1
  have HW := Lib.hid hW
  obtain ⟨g, hgq⟩ : ∃ g, w.heap.size = g := ⟨_, rfl⟩
  rw [hgq] at bk1 bk2
  have HG := Lib.hid hgq
  have bd1 := bk1.drew
  have bd2 := bk2.drew
  have fd := Rd.drew hff
  have gd := Rd.drew hgg
  have hbd : Below w.heap.size w W.drew := below_drewN hb0 1
  have hBW : B ≤ W.drew.heap.size := by show B ≤ W.heap.size; omega
  obtain ⟨fa, hfa⟩ : ∃ fa : Int, (if a.fails = true then 1 else 0) = fa := ⟨_, rfl⟩
  obtain ⟨fb, hfb⟩ : ∃ fb : Int, (if b.fails = true then 1 else 0) = fb := ⟨_, rfl⟩
  have hT1 := fun W => rTruth W a.fails
  rw [hfa] at hT1
  have hT2 := fun W => rTruth W b.fails
  rw [hfb] at hT2
  have hres : spCmp a b = orL [cmpI a.hi b.hi, cmpI a.lo b.lo, cmpI a.id b.id, cmpI a.parent b.parent, cmpI a.start b.start, cmpI a.length b.length, cmpS a.service b.service, cmpS a.name b.name, cmpI a.kind b.kind, cmpI fa fb, cmpTL a.tags b.tags] := by rw [spCmp, hfa, hfb, cmpTr, orL_nest]
  obtain ⟨q, hq⟩ : ∃ q, spCmp a b = q := ⟨_, rfl⟩
  rw [hq]
  rw [hq] at hres
  have HQ := Lib.hid hres
  clear hres hfa hfb hq
  have HN := Lib.hid hn
  have HM := Lib.hid hm
  clear hW hgq hf hg hn hm hb0 hff hgg bk1 bk2 hs1
  go_enter Try.func41, Try.ntmps41
  go_upto_region 1 with fail
  rw [HW.out, HG.out]
  go_region_held3 (fun w' => (w'.cell? ⟨g, 0, none⟩ = some (.int .u64 a.hi) ∧ w'.cell? ⟨g, 1, none⟩ = some (.int .u64 a.lo) ∧ w'.cell? ⟨g, 2, none⟩ = some (.int .u64 a.id) ∧ w'.cell? ⟨g, 3, none⟩ = some (.int .u64 a.parent) ∧ w'.cell? ⟨g, 4, none⟩ = some (.string a.service) ∧ w'.cell? ⟨g, 5, none⟩ = some (.string a.name) ∧ w'.cell? ⟨g, 6, none⟩ = some (.int .i64 a.kind) ∧ w'.cell? ⟨g, 7, none⟩ = some (.int .i64 a.start) ∧ w'.cell? ⟨g, 8, none⟩ = some (.int .i64 a.length) ∧ w'.cell? ⟨g, 9, none⟩ = some (.bool a.fails) ∧ w'.cell? ⟨g, 10, none⟩ = some (.slice A1 n c1)) ∧ (w'.cell? ⟨g + 1, 0, none⟩ = some (.int .u64 b.hi) ∧ w'.cell? ⟨g + 1, 1, none⟩ = some (.int .u64 b.lo) ∧ w'.cell? ⟨g + 1, 2, none⟩ = some (.int .u64 b.id) ∧ w'.cell? ⟨g + 1, 3, none⟩ = some (.int .u64 b.parent) ∧ w'.cell? ⟨g + 1, 4, none⟩ = some (.string b.service) ∧ w'.cell? ⟨g + 1, 5, none⟩ = some (.string b.name) ∧ w'.cell? ⟨g + 1, 6, none⟩ = some (.int .i64 b.kind) ∧ w'.cell? ⟨g + 1, 7, none⟩ = some (.int .i64 b.start) ∧ w'.cell? ⟨g + 1, 8, none⟩ = some (.int .i64 b.length) ∧ w'.cell? ⟨g + 1, 9, none⟩ = some (.bool b.fails) ∧ w'.cell? ⟨g + 1, 10, none⟩ = some (.slice A2 m c2)))
    (exact ⟨cells11 (by assumption), cells11 (by assumption)⟩)
    (first
      | (go_at_call 65
         refine (rNumber _ _ _).mono ?_
         rintro e w' ⟨rfl, hw⟩
         rw [hw]
         clear hw w')
      | (go_at_call 66
         refine (rSigned _ _ _).mono ?_
         rintro e w' ⟨rfl, hw⟩
         rw [hw]
         clear hw w')
      | (go_at_call 67
         refine (rTextC _ _ _).mono ?_
         rintro e w' ⟨rfl, hw⟩
         rw [hw]
         clear hw w')
      | (go_at_call_of 68 (Value.bool a.fails)
         refine (hT1 _).mono ?_
         rintro e w' ⟨rfl, hw⟩
         rw [hw]
         clear hw w')
      | (go_at_call_of 68 (Value.bool b.fails)
         refine (hT2 _).mono ?_
         rintro e w' ⟨rfl, hw⟩
         rw [hw]
         clear hw w')
      | (go_at_call 69
         refine (rTags W.drew fd gd HN.out HM.out hnl hml).mono ?_
         rintro e w6 ⟨rfl, hw6⟩
         have hb6 := below_all hw6 W.drew.heap.size
         clear hw6
         have bf1 := bd1.below hb6 bd1.lt
         have bf2 := bd2.below hb6 bd2.lt
         have hbf := hbd.trans (hb6.mono hbd.size)
         have bz := Bk.new w6 3 #[.int .i64 (cmpI a.hi b.hi), .int .i64 (cmpI a.lo b.lo), .int .i64 (cmpI a.id b.id), .int .i64 (cmpI a.parent b.parent), .int .i64 (cmpI a.start b.start), .int .i64 (cmpI a.length b.length), .int .i64 (cmpS a.service b.service), .int .i64 (cmpS a.name b.name), .int .i64 (cmpI a.kind b.kind), .int .i64 (cmpI fa fb), .int .i64 (cmpTL a.tags b.tags)]
         have hbz := hbf.alloc hbf.size (.cells #[.int .i64 (cmpI a.hi b.hi), .int .i64 (cmpI a.lo b.lo), .int .i64 (cmpI a.id b.id), .int .i64 (cmpI a.parent b.parent), .int .i64 (cmpI a.start b.start), .int .i64 (cmpI a.length b.length), .int .i64 (cmpS a.service b.service), .int .i64 (cmpS a.name b.name), .int .i64 (cmpI a.kind b.kind), .int .i64 (cmpI fa fb), .int .i64 (cmpTL a.tags b.tags)] 3)
         have bg1 := bf1.alloc (.cells #[.int .i64 (cmpI a.hi b.hi), .int .i64 (cmpI a.lo b.lo), .int .i64 (cmpI a.id b.id), .int .i64 (cmpI a.parent b.parent), .int .i64 (cmpI a.start b.start), .int .i64 (cmpI a.length b.length), .int .i64 (cmpS a.service b.service), .int .i64 (cmpS a.name b.name), .int .i64 (cmpI a.kind b.kind), .int .i64 (cmpI fa fb), .int .i64 (cmpTL a.tags b.tags)] 3)
         have bg2 := bf2.alloc (.cells #[.int .i64 (cmpI a.hi b.hi), .int .i64 (cmpI a.lo b.lo), .int .i64 (cmpI a.id b.id), .int .i64 (cmpI a.parent b.parent), .int .i64 (cmpI a.start b.start), .int .i64 (cmpI a.length b.length), .int .i64 (cmpS a.service b.service), .int .i64 (cmpS a.name b.name), .int .i64 (cmpI a.kind b.kind), .int .i64 (cmpI fa fb), .int .i64 (cmpTL a.tags b.tags)] 3))
      | fail)
  all_goals
    obtain ⟨l, hl⟩ : ∃ l : List Int, [cmpI a.hi b.hi, cmpI a.lo b.lo, cmpI a.id b.id, cmpI a.parent b.parent, cmpI a.start b.start, cmpI a.length b.length, cmpS a.service b.service, cmpS a.name b.name, cmpI a.kind b.kind, cmpI fa fb, cmpTL a.tags b.tags] = l := ⟨_, rfl⟩
    have hlen : l.length = 11 := by rw [← hl]; rfl
    have hbk : Bk (w6.alloc (.cells #[.int .i64 (cmpI a.hi b.hi), .int .i64 (cmpI a.lo b.lo), .int .i64 (cmpI a.id b.id), .int .i64 (cmpI a.parent b.parent), .int .i64 (cmpI a.start b.start), .int .i64 (cmpI a.length b.length), .int .i64 (cmpS a.service b.service), .int .i64 (cmpS a.name b.name), .int .i64 (cmpI a.kind b.kind), .int .i64 (cmpI fa fb), .int .i64 (cmpTL a.tags b.tags)] 3)) w6.heap.size 3 (l.map (Value.int .i64)).toArray := by rw [← hl]; exact bz
    obtain ⟨v, hv⟩ : ∃ v, w6.alloc (.cells #[.int .i64 (cmpI a.hi b.hi), .int .i64 (cmpI a.lo b.lo), .int .i64 (cmpI a.id b.id), .int .i64 (cmpI a.parent b.parent), .int .i64 (cmpI a.start b.start), .int .i64 (cmpI a.length b.length), .int .i64 (cmpS a.service b.service), .int .i64 (cmpS a.name b.name), .int .i64 (cmpI a.kind b.kind), .int .i64 (cmpI fa fb), .int .i64 (cmpTL a.tags b.tags)] 3) = v := ⟨_, rfl⟩
    rw [hv] at hbk hbz ⊢
    obtain ⟨z, hz⟩ : ∃ z, w6.heap.size = z := ⟨_, rfl⟩
    rw [hz] at hbk ⊢
    have hget : ∀ j x, l[j]? = some x → v.cell? ⟨z, j, none⟩ = some (.int .i64 x) := fun j x h => by
      rw [hbk.cell j, List.getElem?_toArray, List.getElem?_map, h]
      rfl
    have HGET := Lib.hid hget
    have HLEN := Lib.hid hlen
    have hqq := HQ.out
    rw [hl] at hqq
    have HQQ := Lib.hid hqq
    clear hl hlen hbk hv hz hget hqq bz bg1 bg2 bf1 bf2 hbf hb6
    go_wp2_with fail
    go_loop [6] (fun i => ∃ j : Nat, j ≤ 11 ∧ i = .int .i64 j ∧ orL (l.drop j) = q) (fun i => 11 - (intOf i).toNat)
    case atStart => exact ⟨0, by omega, rfl, HQQ.out.symm⟩
    case round =>
      obtain ⟨j, hj, rfl, hd⟩ := hrel
      have HD := Lib.hid hd
      clear hd
      by_cases hlt : j < 11
      · have hlt' : (j : Int) < 11 := by omega
        obtain ⟨x, hx⟩ : ∃ x, l[j]? = some x := ⟨_, List.getElem?_eq_getElem (by rw [HLEN.out]; exact hlt)⟩
        have hc := HGET.out j x hx
        have hd := orL_drop hx
        rw [HD.out] at hd
        have HX := Lib.hid hd
        clear hx hd
        by_cases h0 : x = 0
        · subst h0
          have hd := HX.out
          rw [if_neg (by simp)] at hd
          have HX2 := Lib.hid hd
          clear hd
          go_wp2
          go_round
          case rel => exact ⟨j + 1, by omega, by go_num, HX2.out.symm⟩
          case measure => simp [intOf]; omega
        · have hxb : (x != 0) = true := by simp [h0]
          have hd := HX.out
          rw [if_pos h0] at hd
          have HX2 := Lib.hid hd
          clear hd
          go_wp2
          go_ret
          exact ⟨by rw [HX2.out]; rfl, hbz⟩
      · have hlt' : decide ((j : Int) < 11) = false := by simp; omega
        have hq0 : q = 0 := by rw [← HD.out]; exact orL_none (by rw [HLEN.out]; omega)
        have HQ0 := Lib.hid hq0
        clear hq0
        go_wp2
        go_ret
        exact ⟨by rw [HQ0.out]; rfl, hbz⟩
end Go.Proofs.Ytchpekidnbdpdaa


/- ref.Copy, ref.Order. -/
namespace Go.Proofs.Ytchpekidnbdpdaa
open Go.RowKit

set_option maxRecDepth 100000 in
set_option maxHeartbeats 2000000 in
theorem rCopy {A : Option Addr} {c n B : Nat} (s : Sp) (w : World) (hf : RbT w B A s.tags) (hn : s.tags.length = n) (hB : B ≤ w.heap.size) (hnl : n ≤ 4398046511104) :
    Calls Try.prog 42 #[spV s A n c] w (CopyPost w s n A) := by
  have hb0 : Below w.heap.size w ((w.alloc (.cells (spC s A n c) 32)).alloc (.cells zspC 32)) := ((Below.refl _ w).alloc (Nat.le_refl _) _).alloc (by simp) _
  have hf1 := Rd.below hf (hb0.mono hB)
  have bk := (Bk.new w 32 (spC s A n c)).alloc (.cells zspC 32)
  have br := Bk.new (w.alloc (.cells (spC s A n c) 32)) 32 zspC
  rw [World.size_alloc] at br
  have hs1 : ((w.alloc (.cells (spC s A n c) 32)).alloc (.cells zspC 32)).heap.size = w.heap.size + 2 := by simp
  obtain ⟨w1, hw1⟩ : ∃ w1, (w.alloc (.cells (spC s A n c) 32)).alloc (.cells zspC 32) = w1 := ⟨_, rfl⟩
  rw [hw1] at hb0 hf1 bk br hs1
  have HW := Lib.hid hw1
  obtain ⟨g, hg⟩ : ∃ g, w.heap.size = g := ⟨_, rfl⟩
  rw [hg] at bk br
  have HG := Lib.hid hg
  have hg1 : g + 2 ≤ w1.heap.size := by omega
  have HN := Lib.hid hn
  have k10 : (w1.alloc (.cells #[] 80)).cell? ⟨g, 10, none⟩ = some (.slice A n c) := (bk.alloc _).cell 10
  have hBw : B ≤ w1.heap.size := by omega
  clear hw1 hg hn hf hs1
  go_enter Try.func42, Try.ntmps42
  go_upto_region 1 with fail
  rw [HW.out, HG.out]
  go_wp2_with (at_builtin; go_loud (refine wpList_appTg _ rfl (.tmp 3) (.tmp 5) rfl w1.heap.size _ 0 [] rfl (World.ownsRow_lit w1 #[] 0 (Nat.le_refl _) (by simp [maxLen]) rfl) B A n c s.tags rfl HN.out (Rd.alloc hf1 hBw _) (by omega) (by simp) ?_))
  intro A' c' w2 happ0 hne0
  have happ := happ0.fresh1
  clear happ0
  have hb2 := happ.below0
  have bk2 := bk.below hb2 bk.lt
  have br2 := br.below hb2 br.lt
  have hlo := happ.lo
  have hrd := Rd.of_own happ.own
  have hcap : n ≤ c' ∧ (A' = none → n = 0 ∧ c' = 0) := by
    rcases happ.own.2 with ⟨h1, h2⟩ | ⟨q, cap, cur, h1, _, _, h3, _⟩
    · injection h1 with _ _ h4
      exact ⟨by omega, fun _ => ⟨h2, h4⟩⟩
    · injection h1 with h4 _ h5
      subst h5
      exact ⟨h3, fun h => by rw [h] at h4; cases h4⟩
  have k10b : w2.cell? ⟨g, 10, none⟩ = some (.slice A n c) := bk2.cell 10
  have f10b : w2.frozen? ⟨g, 10, none⟩ = false := bk2.frozen 10
  have bk3 := bk2.set 10 (.slice A' n c')
  have br3 := br2.far (p := ⟨g, 10, none⟩) (by show g + 1 ≠ g; omega) (.slice A' n c')
  have hb3 := (hb0.trans (hb2.mono hb0.size)).setCell (p := ⟨g, 10, none⟩) (by show w.heap.size ≤ g; rw [HG.out]; exact Nat.le_refl _) (.slice A' n c')
  have hrd3 := hrd.grownS (grown_setCell w2 g 10 (.slice A' n c')) (fun a ha e => by
    have h1 := (hlo a ha).1
    have h2 := Option.some.inj e
    omega)
  have bk3' : Bk (w2.setCell ⟨g, 10, none⟩ (.slice A' n c')) g 32 (spC s A' n c') := bk3
  obtain ⟨w3, hw3⟩ : ∃ w3, w2.setCell ⟨g, 10, none⟩ (.slice A' n c') = w3 := ⟨_, rfl⟩
  rw [hw3] at bk3' br3 hb3 hrd3
  have HW3 := Lib.hid hw3
  clear hw3 bk3 bk2 br2 hb2 hrd happ hf1 bk br
  go_wp2_with (first
    | (refine wpList_load_row rfl 32 (.tmp 1) rfl g rfl 32 (spC s A' n c') (0, 0) _ (by rw [HW3.out]; exact bk3') Try.underlying32 rfl (by rfl) ?_; rw [HW3.out])
    | (refine wpList_store_row rfl 32 (.tmp 2) (.tmp 8) rfl (g + 1) (spC s A' n c') rfl rfl 32 zspC br3 (by rfl) rfl (spC_one s A' n c') ?_))
  try simp only [Exit.inBlock, Exit.then]
  refine bodyPost_ret (results_cell_row rfl _ _ (g + 1) 32 (spC s A' n c') (0, 0) _ rfl (br3.row _) Try.underlying32 rfl (by rfl)) rfl ?_
  refine ⟨A', c', rfl, ?_, ?_, hcap.1, ?_, ?_⟩
  · refine hrd3.grownS (only_row (g + 1) _) (fun a ha e => ?_)
    have h1 := (hlo a ha).1
    have h2 := Option.some.inj e
    omega
  · refine hb3.trans ?_
    exact ⟨rfl, rfl, rfl, by simp [World.setRow], fun i hi => by
      have := HG.out
      have := hb3.size
      simp [World.setRow, Array.getElem?_modify]
      intro e
      omega⟩
  · intro a ha
    have h1 := (hlo a ha).1
    have := hb0.size
    omega
  · intro h
    exact (hne0 h).elim


end Go.Proofs.Ytchpekidnbdpdaa


/- The document's layer 21: Unique. (Turned out of SoH.) -/
namespace Go.Proofs.Ytchpekidnbdpdaa
open Go.RowKit
theorem loadSp_shutQ (a : Addr) : loadVar 32 a = loadK 32 a := rfl
attribute [local go_sem ↓] loadSp_shutQ
attribute [local go_sem ↓] appK_shut
attribute [local go_sem ↓] sliced_s
attribute [local go_sem ↓ high] sliced_s0

theorem fstTo_succ (l : List Sp) (x : Sp) (i k : Nat) {y : Sp} (h : l[k]? = some y) : fstTo l x i (k + 1) = (fstTo l x i k && !ahd x y k i) := by
  simp [fstTo, List.range_succ, h]
theorem insK_le (id : Nat) (out : List Sp) : ∀ k, insK id out k ≤ k
  | 0 => Nat.le_refl _
  | k + 1 => by
    rw [insK]
    split
    · split
      · have := insK_le id out k; omega
      · exact Nat.le_refl _
    · exact Nat.le_refl _
theorem insK_step {id k : Nat} {out : List Sp} {y : Sp} (h : out[k]? = some y) : insK id out (k + 1) = if id < y.id then insK id out k else k + 1 := by
  rw [insK, h]
theorem uniqTo_step {l : List Sp} {i : Nat} {x : Sp} (h : l[i]? = some x) : uniqTo l (i + 1) = if fstTo l x i l.length = true then insAt x (uniqTo l i) else uniqTo l i := by
  rw [uniqTo, h]
theorem uniqTo_len (l : List Sp) : ∀ i, (uniqTo l i).length ≤ i
  | 0 => Nat.le_refl _
  | i + 1 => by
    have ih := uniqTo_len l i
    rw [uniqTo]
    split
    · split
      · rw [insAt, List.length_append, List.length_cons, List.length_take, List.length_drop]; omega
      · omega
    · omega
/-- What Unique hands back. -/
def UnqPost (w : World) (ss : List Sp) (e : Ending) (w' : World) : Prop :=
  ∃ A' c' n' l', e = .returned (.slice A' n' c') ∧ sps l' = ss ∧ RowS w' w.heap.size (.slice A' n' c') n' l' ∧ Below w.heap.size w w'
set_option maxRecDepth 100000 in
set_option maxHeartbeats 4000000 in
theorem raUnique {A : Option Addr} {c n B : Nat} {l : List El} (w : World) (hf : RbS w B A l) (hn : l.length = n) (hB : B ≤ w.heap.size) (hnl : n ≤ 100000) (hsm : ∀ e ∈ l, e.n ≤ 1000000) :
    Calls Try.prog 15 #[.slice A n c] w (UnqPost w (uniq (sps l))) := by
  have HN := Lib.hid hn
  have HSM := Lib.hid hsm
  clear hn hsm
  go_enter Try.func15, Try.ntmps15
  go_wp2
  go_loopw [3, 4] (fun v iv_ wr => ∃ (i m : Nat) (A' : Option Addr) (c' : Nat) (l' : List El), i ≤ n ∧ m ≤ i ∧ v = .slice A' m c' ∧ iv_ = .int .i64 i ∧ sps l' = uniqTo (sps l) i ∧ RowS wr w.heap.size (.slice A' m c') m l' ∧ Below w.heap.size w wr) (fun _ i _ => n - (intOf i).toNat)
  case atStart => exact ⟨0, 0, none, 0, [], by omega, by omega, rfl, rfl, rfl, RowS.nil _ _, Below.refl _ _⟩
  case round =>
    obtain ⟨i, j, A', c', l', hi, hji, rfl, rfl, hl', hrow, hb⟩ := hrel
    have HL := Lib.hid hl'
    clear hl'
    by_cases hlt : i < n
    · have hlt' : (i : Int) < (n : Int) := by omega
      obtain ⟨x, hx⟩ : ∃ x, l[i]? = some x := ⟨_, List.getElem?_eq_getElem (by rw [HN.out]; exact hlt)⟩
      have HX := Lib.hid hx
      have hxn := HSM.out x (List.mem_of_getElem? hx)
      obtain ⟨b, o, rfl, hbb, -, -⟩ := hf.get hx
      have HLE : Hid (∀ {W : World} {k : Nat} {e : El}, Below w.heap.size w W → l[k]? = some e → (loadK 32 ⟨b, o + k * 11, none⟩).run Try.prog W = .ok (spV e.s e.A e.n e.c) W ∧ ElOk W B e ∧ W.cell? ⟨b, o + k * 11 + 2, none⟩ = some (.int .u64 e.s.id)) := fun {W k e} hW he => by
        obtain ⟨b', o', e', -, hc', hok'⟩ := (hf.below (hW.mono hB)).get he
        cases e'
        exact ⟨loadK_el hc', hok', hc' 2 (by omega)⟩
      have hcap : l'.length ≤ c' := by rw [hrow.len]; exact hrow.cap
      have hjc := hrow.cap
      have hjn : j ≤ 100000 := by omega
      obtain ⟨xi, hxi⟩ : ∃ xi, x.s.id = xi := ⟨_, rfl⟩
      have HXI := Lib.hid hxi
      clear hx hxi
      go_wp2_with fail
      obtain ⟨wO, hwO⟩ : ∃ wO, wO = wr := ⟨_, rfl⟩
      subst hwO
      go_loopw [5, 6] (fun f_ k_ wr2 => ∃ (f : Bool) (k : Nat), k ≤ n ∧ f_ = .bool f ∧ k_ = .int .i64 k ∧ Hid (fstTo (sps l) x.s i k = f) ∧ Below wO.heap.size wO wr2) (fun _ k_ _ => n - (intOf k_).toNat)
      case atStart => exact ⟨true, 0, by omega, rfl, rfl, Lib.hid rfl, Below.refl _ _⟩
      case round =>
        obtain ⟨f, k, hk, rfl, rfl, HF, hb2⟩ := hrel
        by_cases hkn : k < n
        · have hkn' : (k : Int) < (n : Int) := by omega
          obtain ⟨e, he⟩ : ∃ e, l[k]? = some e := ⟨_, List.getElem?_eq_getElem (by rw [HN.out]; exact hkn)⟩
          have hbd : Below wO.heap.size wO wr.drew := below_drewN hb2 1
          have hbwd : Below w.heap.size w wr.drew := hb.trans (hbd.mono hb.size)
          obtain ⟨hld1, hok1, -⟩ := HLE.out hbwd he
          obtain ⟨hld2, hok2, -⟩ := HLE.out hbwd HX.out
          have hcm := rCompare (c1 := e.c) (c2 := x.c) e.s x.s wr.drew (hok1.more (Nat.le_trans hB hbwd.size)).rd (hok2.more (Nat.le_trans hB hbwd.size)).rd hok1.len hok2.len (Nat.le_refl _) hok1.max hok2.max
          obtain ⟨cv, hcv⟩ : ∃ cv, spCmp e.s x.s = cv := ⟨_, rfl⟩
          rw [hcv] at hcm
          obtain ⟨ei, hei⟩ : ∃ ei, e.s.id = ei := ⟨_, rfl⟩
          have hst := fstTo_succ (sps l) x.s i k (sps_get he)
          rw [HF.out, ahd, hei, HXI.out, hcv] at hst
          have HST := Lib.hid hst
          have HCV := Lib.hid hcv
          have HCM := Lib.hid hcm
          have HE := Lib.hid he
          have HEI := Lib.hid hei
          clear hcm hcv hok1 hok2 he hst hei
          go_wp2_with fail
          go_region_held3 (fun w' => (loadK 32 ⟨b, o + k * 11, none⟩).run Try.prog w' = .ok (spV e.s e.A e.n e.c) w' ∧ (loadK 32 ⟨b, o + i * 11, none⟩).run Try.prog w' = .ok (spV x.s x.A x.n x.c) w')
            (first | exact ⟨hld1, hld2⟩ | exact ⟨hle1, hle2⟩)
            (first
              | (go_at_call 41
                 refine HCM.out.mono ?_
                 rintro en w5 ⟨rfl, hb5⟩
                 have hb05 := hbd.trans (hb5.mono hbd.size)
                 have hle1 := (HLE.out (hb.trans (hb05.mono hb.size)) HE.out).1
                 have hle2 := (HLE.out (hb.trans (hb05.mono hb.size)) HX.out).1)
              | fail)
          have hc1 := (HLE.out (hb.trans (hb05.mono hb.size)) HE.out).2.2
          have hc2 := (HLE.out (hb.trans (hb05.mono hb.size)) HX.out).2.2
          rw [HEI.out] at hc1
          rw [HXI.out] at hc2
          clear hld1 hld2 hle1 hle2 HCM hb5 HE
          have hnew : ∀ W, Below wO.heap.size w5 W → Below wO.heap.size wO W := fun W hW => hb05.trans hW
          by_cases q1 : ei = xi
          · have q1' : ((ei : Int) == (xi : Int)) = true := by simp; omega
            by_cases q2 : cv < 0
            · have q2' : decide (cv < 0) = true := by simp [q2]
              have hs : fstTo (sps l) x.s i (k + 1) = false := by rw [HST.out]; simp [q1, q2]
              have HS := Lib.hid hs
              clear hs HST
              go_wp2_with fail
              go_quiet (fail)
              go_wp2_with fail
              exact ⟨⟨false, k + 1, by omega, rfl, by go_num, Lib.hid HS.out, hb05.trans (below_drewN (Below.refl _ _) _)⟩, by simp only [intOf]; omega⟩
            · have q2' : decide (cv < 0) = false := by simp; omega
              by_cases q3 : cv = 0
              · have q3' : (cv == 0) = true := by simp [q3]
                by_cases q4 : k < i
                · have q4' : decide ((k : Int) < (i : Int)) = true := by simp; omega
                  have hs : fstTo (sps l) x.s i (k + 1) = false := by rw [HST.out]; simp [q1, q3, q4]
                  have HS := Lib.hid hs
                  clear hs HST
                  go_wp2_with fail
                  go_quiet (fail)
                  go_wp2_with fail
                  exact ⟨⟨false, k + 1, by omega, rfl, by go_num, Lib.hid HS.out, hb05.trans (below_drewN (Below.refl _ _) _)⟩, by simp only [intOf]; omega⟩
                · have q4' : decide ((k : Int) < (i : Int)) = false := by simp; omega
                  have hs : fstTo (sps l) x.s i (k + 1) = f := by rw [HST.out]; simp [q2, q4]
                  have HS := Lib.hid hs
                  clear hs HST
                  go_wp2_with fail
                  go_quiet (fail)
                  go_wp2_with fail
                  exact ⟨⟨f, k + 1, by omega, rfl, by go_num, Lib.hid HS.out, hb05.trans (below_drewN (Below.refl _ _) _)⟩, by simp only [intOf]; omega⟩
              · have q3' : (cv == 0) = false := by simp [q3]
                have hs : fstTo (sps l) x.s i (k + 1) = f := by rw [HST.out]; simp [q2, q3]
                have HS := Lib.hid hs
                clear hs HST
                go_wp2_with fail
                go_quiet (fail)
                go_wp2_with fail
                exact ⟨⟨f, k + 1, by omega, rfl, by go_num, Lib.hid HS.out, hb05.trans (below_drewN (Below.refl _ _) _)⟩, by simp only [intOf]; omega⟩
          · have q1' : ((ei : Int) == (xi : Int)) = false := by simp; omega
            have hs : fstTo (sps l) x.s i (k + 1) = f := by rw [HST.out]; simp [q1]
            have HS := Lib.hid hs
            clear hs HST
            go_wp2_with fail
            go_quiet (fail)
            go_wp2_with fail
            exact ⟨⟨f, k + 1, by omega, rfl, by go_num, Lib.hid HS.out, hb05.trans (below_drewN (Below.refl _ _) _)⟩, by simp only [intOf]; omega⟩
        · have hkn' : decide ((k : Int) < (n : Int)) = false := by simp; omega
          obtain rfl : k = n := by omega
          have hbq := hb.trans (hb2.mono hb.size)
          have hstep := uniqTo_step (sps_get HX.out)
          rw [sps_length, HN.out, HF.out, ← HL.out] at hstep
          have HSTP := Lib.hid hstep
          clear hstep
          cases f with
          | false =>
            go_wp2_with fail
            exact ⟨⟨i + 1, j, A', c', l', by omega, by omega, rfl, by go_num, by rw [HSTP.out]; rfl, hrow.bS hb2, hbq⟩, by simp only [intOf]; omega⟩
          | true =>
            go_wp2_with fail
            have hrow2 := hrow.bS hb2
            clear hrow hb2 hb HL HF
            obtain ⟨wP, hwP⟩ : ∃ wP, wP = wr := ⟨_, rfl⟩
            subst hwP
            go_loopw [8] (fun v wr2 => ∃ k : Nat, k ≤ j ∧ v = .int .i64 k ∧ Hid (insK x.s.id (sps l') j = insK x.s.id (sps l') k) ∧ Below wP.heap.size wP wr2) (fun v _ => (intOf v).toNat)
            case atStart => exact ⟨j, Nat.le_refl _, rfl, Lib.hid rfl, Below.refl _ _⟩
            case round =>
              obtain ⟨k, hk, rfl, HK, hb2⟩ := hrel
              by_cases hk0 : k = 0
              · have k0 : decide ((0 : Int) < (k : Int)) = false := by simp; omega
                have k0' : decide (0 < k) = false := by simp; omega
                have HKK : Hid (insK x.s.id (sps l') j = k) := Lib.hid (by rw [HK.out, hk0]; rfl)
                go_wp2_with fail
                go_quiet (fail)
                clear k0 k0' hk0 HK
                have hbW : Below wP.heap.size wP (wr.drewN nq) := below_drewN hb2 nq
                obtain ⟨WX, hWX⟩ : ∃ WX, wr.drewN nq = WX := ⟨_, rfl⟩
                rw [hWX] at hbW ⊢
                clear hWX
                have HBW : Hid (Below wP.heap.size wP WX) := Lib.hid hbW
                clear hbW
                have hrowW := hrow2.bS HBW.out
                have hbase : w.heap.size ≤ WX.heap.size := Nat.le_trans hbq.size HBW.out.size
                have hkj : (k : Int) ≤ (j : Int) := by omega
                have hkc : (k : Int) ≤ (c' : Int) := by omega
                go_wp2_with (at_builtin; go_loud (refine wpList_appS _ rfl (.tmp 77) (.tmp 80) rfl WX.heap.size _ 0 [] rfl (World.ownsRow_lit WX #[] 0 (Nat.le_refl _) (by simp [maxLen]) rfl) WX.heap.size _ (j - k) _ (l'.drop k) rfl (by rw [List.length_drop, hrow2.len]) (Rd.alloc (Rd.dropS (cap := c') hrowW.rbs.rd hcap) (Nat.le_refl _) _) (by omega) (by simp) ?_))
                intro A3 c3 w3 hap _
                have hap1 := hap.fresh1
                have hb3 := hap1.below0
                have hrow3 := hrowW.bS hb3
                have hlt3 := hbq.trans ((HBW.out.trans (hb3.mono HBW.out.size)).mono hbq.size)
                obtain ⟨hld, hokx, -⟩ := HLE.out hlt3 HX.out
                have hldd : (loadK 32 ⟨b, o + i * 11, none⟩).run Try.prog w3.drew = .ok (spV x.s x.A x.n x.c) w3.drew := (HLE.out (below_drewN hlt3 1) HX.out).1
                have hokd := (HLE.out (below_drewN hlt3 1) HX.out).2.1
                have hBd : B ≤ w3.drew.heap.size := Nat.le_trans hB hlt3.size
                have hcp := rCopy (c := x.c) x.s w3.drew hokd.rd hokd.len hBd (by omega)
                have HCP := Lib.hid hcp
                clear hcp
                have hlo := hap1.lo
                have hownW := hrowW.own_lt
                have hne3 : ∀ a, A3 = some a → (Value.slice A' j c').ownBlock ≠ some a.block := fun a ha e1 => by
                  have h1 := (hownW _ e1).1
                  have h2 := (hlo a ha).1
                  omega
                have hown3 := hap1.drew.own
                have hrow3d := hrow3.drewN 1
                have hbase3 : w.heap.size ≤ w3.drew.heap.size := hlt3.size
                go_wp2_with fail
                go_region_with
                  (first
                    | (go_at_call 42
                       refine HCP.out.mono ?_
                       rintro e w4 ⟨A4, c4, rfl, hr4, hb4, hc4, hlo4, -⟩
                       obtain ⟨A5, c5, w5, A6, c6, w6, hrun5, hrun6, hrow6, hb6⟩ := insRow (e := ⟨x.s, A4, x.n, c4⟩) w3.drew w4 hrow3d hk (by omega) hown3 hne3 hbase3 hb4 ⟨hr4, hokd.len, by show x.n ≤ _; omega⟩ hlo4
                       have HR6 := Lib.hid hrow6
                       clear hrow6)
                    | fail)
                have hsps : sps (l'.take k ++ ⟨x.s, A4, x.n, c4⟩ :: l'.drop k) = uniqTo (sps l) (i + 1) := by
                  rw [HSTP.out, if_pos (by trivial), insAt, sps_length, hrow2.len, HKK.out]
                  simp [sps]
                have HSS := Lib.hid hsps
                clear hsps
                go_wp2
                go_roundw
                case rel => exact ⟨i + 1, j + 1, A6, c6, _, by omega, by omega, rfl, by go_num, HSS.out, HR6.out, (below_drewN hlt3 1).trans hb6⟩
                case measure => simp [intOf]; omega
              · obtain ⟨kk, hkk⟩ : ∃ kk, kk + 1 = k := ⟨k - 1, by omega⟩
                have k0 : (0 : Int) < (k : Int) := by omega
                have k0' : 0 < k := by omega
                have hsubw : IntKind.i64.wrap ((k : Int) - 1) = (kk : Int) := by simp [IntKind.wrap, IntKind.bits, IntKind.signed]; omega
                have hkj' : (kk : Int) < (j : Int) := by omega
                have hkjn : kk < j := by omega
                obtain ⟨y, hy⟩ : ∃ y, l'[kk]? = some y := ⟨_, List.getElem?_eq_getElem (by rw [hrow2.len]; omega)⟩
                obtain ⟨b2, o2, hAe, -, hcy, -⟩ := (hrow2.bS hb2).rbs.get hy
                subst hAe
                have cy : wr.cell? ⟨b2, o2 + kk * 11 + 2, none⟩ = some (.int .u64 y.s.id) := hcy 2 (by omega)
                have cx := (HLE.out (hbq.trans (hb2.mono hbq.size)) HX.out).2.2
                have hst := insK_step (id := x.s.id) (sps_get hy)
                rw [hkk] at hst
                rw [← HK.out, HXI.out] at hst
                rw [HXI.out] at cx
                obtain ⟨yi, hyi⟩ : ∃ yi, y.s.id = yi := ⟨_, rfl⟩
                rw [hyi] at hst cy
                have HST := Lib.hid hst
                have HKE := Lib.hid hkk
                clear hst hy hyi hcy HK hkk
                by_cases hless : xi < yi
                · have hl1 : decide ((xi : Int) < (yi : Int)) = true := by simp; omega
                  have hl2 : (xi : Int) < (yi : Int) := by omega
                  have hnk : insK xi (sps l') j = insK xi (sps l') kk := by rw [HST.out, if_pos hless]
                  have HNK := Lib.hid hnk
                  clear hnk HST
                  go_wp2_with fail
                  go_quiet (fail)
                  go_wp2_with fail
                  exact ⟨⟨kk, by omega, by go_num, Lib.hid (HXI.out ▸ HNK.out), below_drewN hb2 _⟩, by have := HKE.out; simp only [intOf]; try omega⟩
                · have hl1 : decide ((xi : Int) < (yi : Int)) = false := by simp; omega
                  have hl2 : ¬ (xi : Int) < (yi : Int) := by omega
                  have HKK : Hid (insK x.s.id (sps l') j = k) := Lib.hid (by rw [HXI.out, HST.out, if_neg hless])
                  clear HST
                  go_wp2_with fail
                  go_quiet (fail)
                  clear k0 k0' hk0 hl1 hl2 hsubw hkj' hkjn
                  have hbW : Below wP.heap.size wP (wr.drewN nq) := below_drewN hb2 nq
                  obtain ⟨WX, hWX⟩ : ∃ WX, wr.drewN nq = WX := ⟨_, rfl⟩
                  rw [hWX] at hbW ⊢
                  clear hWX cx cy
                  have HBW : Hid (Below wP.heap.size wP WX) := Lib.hid hbW
                  clear hbW
                  have hrowW := hrow2.bS HBW.out
                  have hbase : w.heap.size ≤ WX.heap.size := Nat.le_trans hbq.size HBW.out.size
                  have hkj : (k : Int) ≤ (j : Int) := by omega
                  have hkc : (k : Int) ≤ (c' : Int) := by omega
                  go_wp2_with (at_builtin; go_loud (refine wpList_appS _ rfl (.tmp 77) (.tmp 80) rfl WX.heap.size _ 0 [] rfl (World.ownsRow_lit WX #[] 0 (Nat.le_refl _) (by simp [maxLen]) rfl) WX.heap.size _ (j - k) _ (l'.drop k) rfl (by rw [List.length_drop, hrow2.len]) (Rd.alloc (Rd.dropS (cap := c') hrowW.rbs.rd hcap) (Nat.le_refl _) _) (by omega) (by simp) ?_))
                  intro A3 c3 w3 hap _
                  have hap1 := hap.fresh1
                  have hb3 := hap1.below0
                  have hrow3 := hrowW.bS hb3
                  have hlt3 := hbq.trans ((HBW.out.trans (hb3.mono HBW.out.size)).mono hbq.size)
                  obtain ⟨hld, hokx, -⟩ := HLE.out hlt3 HX.out
                  have hldd : (loadK 32 ⟨b, o + i * 11, none⟩).run Try.prog w3.drew = .ok (spV x.s x.A x.n x.c) w3.drew := (HLE.out (below_drewN hlt3 1) HX.out).1
                  have hokd := (HLE.out (below_drewN hlt3 1) HX.out).2.1
                  have hBd : B ≤ w3.drew.heap.size := Nat.le_trans hB hlt3.size
                  have hcp := rCopy (c := x.c) x.s w3.drew hokd.rd hokd.len hBd (by omega)
                  have HCP := Lib.hid hcp
                  clear hcp
                  have hlo := hap1.lo
                  have hownW := hrowW.own_lt
                  have hne3 : ∀ a, A3 = some a → (Value.slice (some ⟨b2, o2, none⟩) j c').ownBlock ≠ some a.block := fun a ha e1 => by
                    have h1 := (hownW _ e1).1
                    have h2 := (hlo a ha).1
                    omega
                  have hown3 := hap1.drew.own
                  have hrow3d := hrow3.drewN 1
                  have hbase3 : w.heap.size ≤ w3.drew.heap.size := hlt3.size
                  go_wp2_with fail
                  go_region_with
                    (first
                      | (go_at_call 42
                         refine HCP.out.mono ?_
                         rintro e w4 ⟨A4, c4, rfl, hr4, hb4, hc4, hlo4, -⟩
                         obtain ⟨A5, c5, w5, A6, c6, w6, hrun5, hrun6, hrow6, hb6⟩ := insRow (e := ⟨x.s, A4, x.n, c4⟩) w3.drew w4 hrow3d hk (by omega) hown3 hne3 hbase3 hb4 ⟨hr4, hokd.len, by show x.n ≤ _; omega⟩ hlo4
                         have HR6 := Lib.hid hrow6
                         clear hrow6)
                      | fail)
                  have hsps : sps (l'.take k ++ ⟨x.s, A4, x.n, c4⟩ :: l'.drop k) = uniqTo (sps l) (i + 1) := by
                    rw [HSTP.out, if_pos (by trivial), insAt, sps_length, hrow2.len, HKK.out]
                    simp [sps]
                  have HSS := Lib.hid hsps
                  clear hsps
                  go_wp2
                  go_roundw
                  case rel => exact ⟨i + 1, j + 1, A6, c6, _, by omega, by omega, rfl, by go_num, HSS.out, HR6.out, (below_drewN hlt3 1).trans hb6⟩
                  case measure => simp [intOf]; omega
    · have hlt' : decide ((i : Int) < (n : Int)) = false := by simp; omega
      obtain rfl : i = n := by omega
      have hfin : sps l' = uniq (sps l) := by rw [HL.out, uniq, sps_length, HN.out]
      have HF := Lib.hid hfin
      clear hfin
      go_wp2
      go_ret
      exact ⟨A', c', j, l', rfl, HF.out, hrow, hb⟩
end Go.Proofs.Ytchpekidnbdpdaa


/- Adjusted spans: what they are, as they lie. -/
namespace Go.Proofs.Ytchpekidnbdpdaa
open Go.RowKit

structure Ad where
  s : Sp
  up : Nat
  shift : Int
  flag : Int
abbrev adC (a : Ad) (A : Option Addr) (n c : Nat) : Array Value := #[.int .u64 a.s.hi, .int .u64 a.s.lo, .int .u64 a.s.id, .int .u64 a.s.parent, .string a.s.service, .string a.s.name, .int .i64 a.s.kind, .int .i64 a.s.start, .int .i64 a.s.length, .bool a.s.fails, .slice A n c, .int .u64 a.up, .int .i64 a.shift, .int .i64 a.flag]
abbrev adV (a : Ad) (A : Option Addr) (n c : Nat) : Value := .agg (adC a A n c)
def adChk (a : Ad) : Nat := if spChk a.s ≠ 0 then spChk a.s else if a.flag < 0 ∨ 2 < a.flag then 2 else 0
def Ad.Ok (a : Ad) : Prop := a.s.U64 ∧ a.up < 18446744073709551616 ∧ -9223372036854775808 ≤ a.shift ∧ a.shift ≤ 9223372036854775807
theorem run_loadVar_cellsK {P : Program} (w : World) (ty : TypeId) (d : TypeDesc) (a : Addr) (xs : List Value) (hu : P.underlying ty = some d) (hd : (match d with | .struct _ | .array _ _ => true | _ => false) = true) (hi : (P.info? ty).map (·.size) = some xs.length)
    (hc : ∀ j v, xs[j]? = some v → w.cell? (a.add j) = some v) : (loadVar ty a).run P w = .ok (.agg xs.toArray) w := by
  have hl := run_loadCells_list (P := P) w a xs hc
  cases hq : P.info? ty with
  | none => simp [hq] at hi
  | some i =>
    have hs : i.size = xs.length := by simpa [hq] using hi
    have hagg : (isAgg ty).run P w = .ok true w := by
      unfold isAgg
      rw [Sem.run_bind, run_underlying hu w]
      cases d <;> simp_all
    simp [loadVar, Sem.run_bind, hagg, sizeOf, typeInfo, hq, hs, hl]
set_option maxRecDepth 100000 in
theorem loadK_adSp {w : World} {g n c : Nat} {a : Ad} {A : Option Addr} (h : Bk w g 47 (adC a A n c)) : (loadK 32 ⟨g, 0, none⟩).run Try.prog w = .ok (spV a.s A n c) w :=
  run_loadVar_cellsK w _ _ ⟨g, 0, none⟩ (spC a.s A n c).toList Try.underlying32 rfl (by rfl) (fun j v hv => by
    have hj : j < 11 := (List.getElem?_eq_some_iff.1 hv).1
    rw [Addr.add_lit, Nat.zero_add, h.cell j, ← hv]
    have h14 : ∀ j, j < 11 → (adC a A n c)[j]? = (spC a.s A n c).toList[j]? := by
      intro j hj
      have : j = 0 ∨ j = 1 ∨ j = 2 ∨ j = 3 ∨ j = 4 ∨ j = 5 ∨ j = 6 ∨ j = 7 ∨ j = 8 ∨ j = 9 ∨ j = 10 := by omega
      rcases this with rfl | rfl | rfl | rfl | rfl | rfl | rfl | rfl | rfl | rfl | rfl <;> rfl
    exact h14 j hj)
abbrev zadC : Array Value := #[.int .u64 0, .int .u64 0, .int .u64 0, .int .u64 0, .string ⟨#[]⟩, .string ⟨#[]⟩, .int .i64 0, .int .i64 0, .int .i64 0, .bool false, .slice none 0 0, .int .u64 0, .int .i64 0, .int .i64 0]
theorem adC_one (a : Ad) (A : Option Addr) (n c : Nat) : (adC a A n c).all (·.oneCell') = true := by simp [Value.oneCell']
set_option maxRecDepth 100000 in
theorem loadK_ad {w : World} {g n c : Nat} {a : Ad} {A : Option Addr} (h : Bk w g 47 (adC a A n c)) : (loadK 47 ⟨g, 0, none⟩).run Try.prog w = .ok (adV a A n c) w :=
  run_loadVar_row w g _ _ (adC a A n c) (0, 0) _ h Try.underlying47 rfl (by rfl)
set_option maxRecDepth 100000 in
theorem loadK_spK {w : World} {g n c : Nat} {s : Sp} {A : Option Addr} (h : Bk w g 32 (spC s A n c)) : (loadK 32 ⟨g, 0, none⟩).run Try.prog w = .ok (spV s A n c) w :=
  run_loadVar_row w g _ _ (spC s A n c) (0, 0) _ h Try.underlying32 rfl (by rfl)
end Go.Proofs.Ytchpekidnbdpdaa


/- Rows of structs: cells of a fixed number an element, one behind the other. Plain. -/
namespace Go.Proofs.Ytchpekidnbdpdaa
open Go.RowKit

section
variable {α : Type} {f : α → List Value} {k : Nat}
def flatR (f : α → List Value) (l : List α) : List Value := l.flatMap f
theorem flatR_append (a b : List α) : flatR f (a ++ b) = flatR f a ++ flatR f b := by simp [flatR]
theorem flatR_cons (x : α) (l : List α) : flatR f (x :: l) = f x ++ flatR f l := rfl
theorem flatR_length (hk : ∀ x, (f x).length = k) (l : List α) : (flatR f l).length = l.length * k := by
  induction l with
  | nil => simp [flatR]
  | cons x l ih => rw [flatR_cons, List.length_append, ih, hk, List.length_cons, Nat.add_mul, Nat.one_mul, Nat.add_comm]
theorem flatR_get (hk : ∀ x, (f x).length = k) : ∀ {l : List α} {i : Nat} {x : α}, l[i]? = some x → ∀ j, j < k → (flatR f l)[i * k + j]? = (f x)[j]? := by
  intro l
  induction l with
  | nil => intro i x h; simp at h
  | cons u l ih =>
    intro i x h j hj
    rw [flatR_cons]
    cases i with
    | zero =>
      simp at h
      subst h
      rw [List.getElem?_append_left (by rw [hk]; omega), Nat.zero_mul, Nat.zero_add]
    | succ i =>
      have := ih (i := i) (x := x) (by simpa using h) j hj
      rw [List.getElem?_append_right (by rw [hk, Nat.add_mul]; omega), hk, show (i + 1) * k + j - k = i * k + j from by rw [Nat.add_mul]; omega]
      exact this
theorem flatR_take (hk : ∀ x, (f x).length = k) (l : List α) (n : Nat) : (flatR f l).take (n * k) = flatR f (l.take n) := by
  induction l generalizing n with
  | nil => simp [flatR]
  | cons x l ih =>
    cases n with
    | zero => simp [flatR]
    | succ n => rw [flatR_cons, List.take_succ_cons, flatR_cons, ← ih n, List.take_append, hk, List.take_of_length_le (by rw [hk, Nat.add_mul]; omega), show (n + 1) * k - k = n * k from by rw [Nat.add_mul]; omega]
theorem flatR_drop (hk : ∀ x, (f x).length = k) (l : List α) (n : Nat) : (flatR f l).drop (n * k) = flatR f (l.drop n) := by
  induction l generalizing n with
  | nil => simp [flatR]
  | cons x l ih =>
    cases n with
    | zero => simp [flatR]
    | succ n => rw [flatR_cons, List.drop_succ_cons, ← ih n, List.drop_append, hk, List.drop_eq_nil_of_le (by rw [hk, Nat.add_mul]; omega), show (n + 1) * k - k = n * k from by rw [Nat.add_mul]; omega, List.nil_append]
theorem flatR_one (h1 : ∀ x, ∀ u ∈ f x, u.oneCell' = true) (l : List α) : ∀ u ∈ flatR f l, u.oneCell' = true := by
  intro u hu
  obtain ⟨x, _, hx⟩ := List.mem_flatMap.1 hu
  exact h1 x u hx
/-- An element's cells. -/
theorem flatR_at (hk : ∀ x, (f x).length = k) (h0 : 0 < k) {w : World} {B : Nat} {A : Option Addr} {l : List α} (h : Rd w B A (flatR f l)) {i : Nat} {x : α} (hi : l[i]? = some x) :
    ∃ b o, A = some ⟨b, o, none⟩ ∧ b < B ∧ ∀ j, j < k → w.cell? ⟨b, o + (i * k + j), none⟩ = (f x)[j]? := by
  have hl := (List.getElem?_eq_some_iff.1 hi).1
  have hlen := flatR_length hk l
  have hpos : 0 < (flatR f l).length := by rw [hlen]; exact Nat.mul_pos (by omega) h0
  obtain ⟨b, o, hA, hb, hc⟩ := h (by intro e; rw [e] at hpos; simp at hpos)
  refine ⟨b, o, hA, hb, fun j hj => ?_⟩
  have h1 := flatR_get hk hi j hj
  have h2 : j < (f x).length := by rw [hk]; exact hj
  rw [List.getElem?_eq_getElem h2] at h1 ⊢
  exact hc _ _ h1
end
end Go.Proofs.Ytchpekidnbdpdaa


/- Lists of adjusted spans, as they lie. -/
namespace Go.Proofs.Ytchpekidnbdpdaa
open Go.RowKit

/-- An adjusted span as it lies: itself, and its tags' slice. -/
structure AE where
  a : Ad
  A : Option Addr
  n : Nat
  c : Nat
def aeC (e : AE) : List Value := (adC e.a e.A e.n e.c).toList
theorem aeC_length (e : AE) : (aeC e).length = 14 := rfl
theorem aeC_one (e : AE) : ∀ u ∈ aeC e, u.oneCell' = true := by
  intro u hu
  have := adC_one e.a e.A e.n e.c
  rw [Array.all_eq_true'] at this
  exact this u (by simpa [aeC] using hu)
abbrev aes (l : List AE) : List Value := flatR aeC l
/-- Its tags lie where it says. -/
structure AeOk (w : World) (B : Nat) (e : AE) : Prop where
  rd : RbT w B e.A e.a.s.tags
  len : e.a.s.tags.length = e.n
  max : e.n ≤ 9223372036854775807
  ok : e.a.Ok
theorem AeOk.below {w w' : World} {B : Nat} {e : AE} (h : AeOk w B e) (hb : Below B w w') : AeOk w' B e := ⟨Rd.below h.rd hb, h.len, h.max, h.ok⟩
theorem AeOk.more {w : World} {B B' : Nat} {e : AE} (h : AeOk w B e) (hb : B ≤ B') : AeOk w B' e := ⟨Rd.more h.rd hb, h.len, h.max, h.ok⟩
/-- Adjusted spans that lie from A on, and their tags. -/
structure RbA (w : World) (B : Nat) (A : Option Addr) (l : List AE) : Prop where
  rd : Rd w B A (aes l)
  ok : ∀ e ∈ l, AeOk w B e
section
variable {w w' : World} {B B' : Nat} {A : Option Addr} {l : List AE}
theorem RbA.nil : RbA w B A [] := ⟨Rd.nil, fun _ h => by cases h⟩
theorem RbA.below (h : RbA w B A l) (hb : Below B w w') : RbA w' B A l := ⟨Rd.below h.rd hb, fun e he => (h.ok e he).below hb⟩
theorem RbA.more (h : RbA w B A l) (hB : B ≤ B') : RbA w B' A l := ⟨Rd.more h.rd hB, fun e he => (h.ok e he).more hB⟩
theorem RbA.bS (h : RbA w w.heap.size A l) (hb : Below w.heap.size w w') : RbA w' w'.heap.size A l := (h.below hb).more hb.size
theorem RbA.get (h : RbA w B A l) {i : Nat} {e : AE} (hi : l[i]? = some e) :
    ∃ b o, A = some ⟨b, o, none⟩ ∧ b < B ∧ (∀ j, j < 14 → w.cell? ⟨b, o + (i * 14 + j), none⟩ = (aeC e)[j]?) ∧ AeOk w B e := by
  obtain ⟨b, o, hA, hb, hc⟩ := flatR_at aeC_length (by omega) h.rd hi
  exact ⟨b, o, hA, hb, hc, h.ok e (List.mem_of_getElem? hi)⟩
end
set_option maxRecDepth 100000 in
theorem loadK_ae {w : World} {b o i : Nat} {e : AE} (h : ∀ j, j < 14 → w.cell? ⟨b, o + (i * 14 + j), none⟩ = (aeC e)[j]?) : (loadK 47 ⟨b, o + i * 14, none⟩).run Try.prog w = .ok (adV e.a e.A e.n e.c) w :=
  run_loadVar_cellsK w _ _ ⟨b, o + i * 14, none⟩ (aeC e) Try.underlying47 rfl (by rfl) (fun j v hv => by
    have hj : j < 14 := by have := (List.getElem?_eq_some_iff.1 hv).1; rwa [aeC_length] at this
    rw [Addr.add_lit, Nat.add_assoc, h j hj, hv])

/-- From when to when adjusted spans are. -/
def bndStep (b : Int × Int) (e : AE) : Int × Int := (min b.1 e.a.s.start, max b.2 (e.a.s.start + e.a.s.length))
def bnds : List AE → Int × Int
  | [] => (0, 0)
  | e :: l => (e :: l).foldl bndStep (e.a.s.start, e.a.s.start + e.a.s.length)
end Go.Proofs.Ytchpekidnbdpdaa

