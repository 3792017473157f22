/- Spans, the document's answer: the order of two numbers, texts, lists of tags. -/
import Derived.Test.YtohnpogoldbplaaSpN
namespace Go.Proofs.Ytohnpogoldbplaa
open Go.RowKit

theorem rNumber (x y : Int) (w : World) : Calls Try.prog 66 #[.int .u64 x, .int .u64 y] w fun e w' => e = .returned (.int .i64 (cmpI x y)) ∧ w' = w := by
  by_cases h1 : x < y
  · rw [show cmpI x y = -1 from by rw [cmpI, if_pos h1]]
    go_enter Try.func66, Try.ntmps66
    go_wp2
    go_ret
    exact ⟨rfl, rfl⟩
  · by_cases h2 : y < x
    · rw [show cmpI x y = 1 from by rw [cmpI, if_neg h1, if_pos h2]]
      go_enter Try.func66, Try.ntmps66
      go_wp2
      go_ret
      exact ⟨rfl, rfl⟩
    · rw [show cmpI x y = 0 from by rw [cmpI, if_neg h1, if_neg h2]]
      go_enter Try.func66, Try.ntmps66
      go_wp2
      go_ret
      exact ⟨rfl, rfl⟩
theorem rSigned (x y : Int) (w : World) : Calls Try.prog 67 #[.int .i64 x, .int .i64 y] w fun e w' => e = .returned (.int .i64 (cmpI x y)) ∧ w' = w := by
  by_cases h1 : x < y
  · rw [show cmpI x y = -1 from by rw [cmpI, if_pos h1]]
    go_enter Try.func67, Try.ntmps67
    go_wp2
    go_ret
    exact ⟨rfl, rfl⟩
  · by_cases h2 : y < x
    · rw [show cmpI x y = 1 from by rw [cmpI, if_neg h1, if_pos h2]]
      go_enter Try.func67, Try.ntmps67
      go_wp2
      go_ret
      exact ⟨rfl, rfl⟩
    · rw [show cmpI x y = 0 from by rw [cmpI, if_neg h1, if_neg h2]]
      go_enter Try.func67, Try.ntmps67
      go_wp2
      go_ret
      exact ⟨rfl, rfl⟩
theorem strLt_ways (s t : ByteArray) : (strLt s t = true ∧ cmpS s t = -1) ∨ (strLt s t = false ∧ strLt t s = true ∧ cmpS s t = 1) ∨ (strLt s t = false ∧ strLt t s = false ∧ cmpS s t = 0) := by
  cases h1 : strLt s t with
  | true => exact .inl ⟨rfl, by rw [cmpS, if_pos h1]⟩
  | false =>
    cases h2 : strLt t s with
    | true =>
      refine .inr (.inl ⟨rfl, rfl, ?_⟩)
      have hne : s ≠ t := fun e => by subst e; rw [h1] at h2; cases h2
      rw [cmpS, h1, if_neg hne]
      simp
    | false =>
      refine .inr (.inr ⟨rfl, rfl, ?_⟩)
      rw [strLt_ltb] at h1 h2
      have := nums_inj (ltb_tri _ _ h1 h2)
      subst this
      rw [cmpS, strLt_ltb, h1]
      simp
theorem rTextC (s t : ByteArray) (w : World) : Calls Try.prog 68 #[.string s, .string t] w fun e w' => e = .returned (.int .i64 (cmpS s t)) ∧ w' = w := by
  rcases strLt_ways s t with ⟨h1, h3⟩ | ⟨h1, h2, h3⟩ | ⟨h1, h2, h3⟩
  · rw [h3]
    unfold strLt at h1
    clear h3
    go_enter Try.func68, Try.ntmps68
    go_wp2
    go_ret
    exact ⟨rfl, rfl⟩
  · rw [h3]
    have e0 : (s.toList == t.toList) = false := by
      rw [strEq_of', decide_eq_false_iff_not]
      rintro rfl
      rw [h1] at h2
      cases h2
    unfold strLt at h1 h2
    clear h3
    go_enter Try.func68, Try.ntmps68
    go_wp2
    go_ret
    exact ⟨rfl, rfl⟩
  · rw [h3]
    have e0 : (s.toList == t.toList) = true := by
      rw [strEq_of', decide_eq_true_iff]
      rw [strLt_ltb] at h1 h2
      exact nums_inj (ltb_tri _ _ h1 h2)
    unfold strLt at h1 h2
    clear h3
    go_enter Try.func68, Try.ntmps68
    go_wp2
    go_ret
    exact ⟨rfl, rfl⟩
theorem rTruth (w : World) (b : Bool) : Calls Try.prog 54 #[.bool b] w fun e w' => e = .returned (.int .i64 (if b = true then 1 else 0)) ∧ w' = w := by
  cases b
  · go_enter Try.func54, Try.ntmps54
    go_wp2
    go_ret
    exact ⟨rfl, rfl⟩
  · go_enter Try.func54, Try.ntmps54
    go_wp2
    go_ret
    exact ⟨rfl, rfl⟩

set_option maxRecDepth 100000 in
set_option maxHeartbeats 2000000 in
theorem rTags {A1 A2 : Option Addr} {c1 c2 n m B : Nat} {la lb : List Tg} (w : World) (hf : RbT w B A1 la) (hg : RbT w B A2 lb) (hn : la.length = n) (hm : lb.length = m) (hnl : n ≤ 9223372036854775807) (hml : m ≤ 9223372036854775807) :
    Calls Try.prog 69 #[.slice A1 n c1, .slice A2 m c2] w fun e w' => e = .returned (.int .i64 (cmpTL la lb)) ∧ ∃ d, w' = w.drewN d := by
  have HN := Lib.hid hn
  have HM := Lib.hid hm
  obtain ⟨q, hq⟩ : ∃ q, cmpTL la lb = q := ⟨_, rfl⟩
  rw [hq]
  have HQ := Lib.hid hq
  clear hn hm hq
  go_enter Try.func69, Try.ntmps69
  go_wp2
  go_loopw [5, 6] (fun iv_ _ wr => ∃ j : Nat, j ≤ n ∧ j ≤ m ∧ iv_ = .int .i64 j ∧ cmpTL (la.drop j) (lb.drop j) = q ∧ ∃ d, wr = w.drewN d) (fun i _ _ => n - (intOf i).toNat)
  case atStart => exact ⟨0, by omega, by omega, rfl, HQ.out, 0, rfl⟩
  case round =>
    obtain ⟨j, hj, hjm, rfl, hd, d, rfl⟩ := hrel
    have HD := Lib.hid hd
    clear hd
    by_cases hlt : j < n
    · have hlt' : (j : Int) < (n : Int) := by omega
      by_cases hlm : j < m
      · have hlm2 : (j : Int) < (m : Int) := by omega
        obtain ⟨x, hx⟩ : ∃ x, la[j]? = some x := ⟨_, List.getElem?_eq_getElem (by rw [HN.out]; exact hlt)⟩
        obtain ⟨b1, o1, rfl, hbb1, c11, c12⟩ := RbT.get hf hx
        obtain ⟨y, hy⟩ : ∃ y, lb[j]? = some y := ⟨_, List.getElem?_eq_getElem (by rw [HM.out]; exact hlm)⟩
        obtain ⟨b2, o2, rfl, hbb2, c21, c22⟩ := RbT.get hg hy
        have hst := cmpTL_step hx hy
        rw [HD.out, cmpTg, orL2] at hst
        obtain ⟨u, hu⟩ : ∃ u, cmpS x.key y.key = u := ⟨_, rfl⟩
        obtain ⟨v, hv⟩ : ∃ v, cmpS x.val y.val = v := ⟨_, rfl⟩
        have hc1 := fun W => rTextC x.key y.key W
        have hc2 := fun W => rTextC x.val y.val W
        rw [hu] at hst hc1
        rw [hv] at hst hc2
        have HST := Lib.hid hst
        have HC1 := Lib.hid hc1
        have HC2 := Lib.hid hc2
        clear hst hc1 hc2 hu hv hx hy hbb1 hbb2
        go_wp2_with fail
        by_cases h0 : u = 0
        · subst h0
          by_cases h1 : v = 0
          · subst h1
            have hd := HST.out
            simp only [ne_eq, not_true, if_false] at hd
            have HD2 := Lib.hid hd
            clear hd
            go_quiet ((go_at_call 68; go_loud (exact (HC1.out _).mono (fun _ _ h => ⟨h.1, _, h.2⟩))))
            go_wp2_with fail
            go_quiet ((go_at_call 68; go_loud (exact (HC2.out _).mono (fun _ _ h => ⟨h.1, _, h.2⟩))))
            go_wp2_with fail
            go_roundw
            case rel => exact ⟨j + 1, by omega, by omega, by go_num, HD2.out.symm, _, rfl⟩
            case measure => simp [intOf]; omega
          · have hxb : (v != 0) = true := by simp [h1]
            have hd := HST.out
            simp only [ne_eq, not_true, if_false, h1, not_false_eq_true, if_true] at hd
            have HD2 := Lib.hid hd
            clear hd
            go_quiet ((go_at_call 68; go_loud (exact (HC1.out _).mono (fun _ _ h => ⟨h.1, _, h.2⟩))))
            go_wp2_with fail
            go_quiet ((go_at_call 68; go_loud (exact (HC2.out _).mono (fun _ _ h => ⟨h.1, _, h.2⟩))))
            go_wp2_with fail
            go_ret
            exact ⟨by rw [HD2.out]; rfl, _, rfl⟩
        · have hxb : (u != 0) = true := by simp [h0]
          have hxc : (u == 0) = false := by simp [h0]
          have hd := HST.out
          simp only [ne_eq, h0, not_false_eq_true, if_true] at hd
          have HD2 := Lib.hid hd
          clear hd
          go_quiet ((go_at_call 68; go_loud (exact (HC1.out _).mono (fun _ _ h => ⟨h.1, _, h.2⟩))))
          go_wp2_with fail
          go_ret
          exact ⟨by rw [HD2.out]; rfl, _, rfl⟩
      · have hlm2 : decide ((j : Int) < (m : Int)) = false := by simp; omega
        have hq1 : q = cmpI (n : Int) (m : Int) := by
          rw [← HD.out, show lb.drop j = [] from List.drop_eq_nil_of_le (by rw [HM.out]; omega), List.drop_eq_getElem_cons (by rw [HN.out]; exact hlt), cmpTL, cmpI, if_neg (by omega), if_pos (by omega)]
        have HQ1 := Lib.hid hq1
        clear hq1
        go_wp2_with (go_at_call 67; refine (rSigned _ _ _).mono ?_; rintro e w' ⟨rfl, hw⟩; rw [hw]; clear hw w')
        go_ret
        exact ⟨by rw [HQ1.out]; rfl, d, rfl⟩
    · have hlt' : decide ((j : Int) < (n : Int)) = false := by simp; omega
      obtain rfl : j = n := by omega
      have hq1 : q = cmpI (j : Int) (m : Int) := by
        rw [← HD.out, show la.drop j = [] from List.drop_eq_nil_of_le (by rw [HN.out]; omega)]
        by_cases hlm : j < m
        · rw [List.drop_eq_getElem_cons (by rw [HM.out]; exact hlm), cmpTL, cmpI, if_pos (by omega)]
        · rw [List.drop_eq_nil_of_le (by rw [HM.out]; omega), cmpTL, cmpI, if_neg (by omega), if_neg (by omega)]
      have HQ1 := Lib.hid hq1
      clear hq1
      go_wp2_with (go_at_call 67; refine (rSigned _ _ _).mono ?_; rintro e w' ⟨rfl, hw⟩; rw [hw]; clear hw w')
      go_ret
      exact ⟨by rw [HQ1.out]; rfl, d, rfl⟩
end Go.Proofs.Ytohnpogoldbplaa
