/- Spans: slices.CompareFunc of tags. -/
import Derived.Test.YtohnpogoldbplaaSpH
namespace Go.Proofs.Ytohnpogoldbplaa
open Go.RowKit

set_option maxRecDepth 100000 in
set_option maxHeartbeats 2000000 in
theorem spCmpTL {A1 A2 : Option Addr} {c1 c2 n m B : Nat} {la lb : List Tg} (w : World) (hf : RbT w B A1 la) (hg : RbT w B A2 lb) (hn : la.length = n) (hm : lb.length = m) (hB : B ≤ w.heap.size) (hnl : n ≤ 9223372036854775807) (hml : m ≤ 9223372036854775807) :
    Calls Try.prog 64 #[.slice A1 n c1, .slice A2 m c2, .func (.func 65) #[] #[]] w fun e w' => e = .returned (.int .i64 (cmpTL la lb)) ∧ Below w.heap.size w w' := by
  have HN := Lib.hid hn
  have HM := Lib.hid hm
  obtain ⟨q, hq⟩ : ∃ q, cmpTL la lb = q := ⟨_, rfl⟩
  rw [hq]
  have HQ := Lib.hid hq
  clear hn hm hq
  go_enter Try.func64, Try.ntmps64
  go_wp2
  go_loopw [13] (fun iv_ wr => ∃ j : Nat, j ≤ n ∧ j ≤ m ∧ iv_ = .int .i64 j ∧ cmpTL (la.drop j) (lb.drop j) = q ∧ Below w.heap.size w wr) (fun i _ => n - (intOf i).toNat)
  case atStart => exact ⟨0, by omega, by omega, rfl, HQ.out, Below.refl _ _⟩
  case round =>
    obtain ⟨j, hj, hjm, rfl, hd, hb⟩ := hrel
    have HD := Lib.hid hd
    have hsr := hb.size
    clear hd
    by_cases hlt : j < n
    · have hlt' : (j : Int) < (n : Int) := by omega
      obtain ⟨x, hx⟩ : ∃ x, la[j]? = some x := ⟨_, List.getElem?_eq_getElem (by rw [HN.out]; exact hlt)⟩
      obtain ⟨b1, o1, rfl, hbb1, c11, c12⟩ := RbT.get (Rd.below hf (hb.mono hB)) hx
      by_cases hlm : j < m
      · have hlm' : decide ((m : Int) ≤ (j : Int)) = false := by simp; omega
        have hlm2 : (j : Int) < (m : Int) := by omega
        obtain ⟨y, hy⟩ : ∃ y, lb[j]? = some y := ⟨_, List.getElem?_eq_getElem (by rw [HM.out]; exact hlm)⟩
        obtain ⟨b2, o2, rfl, hbb2, c21, c22⟩ := RbT.get (Rd.below hg (hb.mono hB)) hy
        have hst := cmpTL_step hx hy
        rw [HD.out] at hst
        obtain ⟨cv, hcv⟩ : ∃ cv, cmpTg x y = cv := ⟨_, rfl⟩
        have hct := fun W => spCmpTags x y W
        rw [hcv] at hst hct
        have HST := Lib.hid hst
        have HCT := Lib.hid hct
        have d21 : (wr.alloc (.cells #[.string x.key, .string x.val] 42)).cell? ⟨b2, o2 + j * 2, none⟩ = some (.string y.key) := (World.cell?_alloc_lt wr _ ⟨b2, o2 + j * 2, none⟩ (by show b2 < _; omega)).trans c21
        have d22 : (wr.alloc (.cells #[.string x.key, .string x.val] 42)).cell? ⟨b2, o2 + j * 2 + 1, none⟩ = some (.string y.val) := (World.cell?_alloc_lt wr _ ⟨b2, o2 + j * 2 + 1, none⟩ (by show b2 < _; omega)).trans c22
        have hb2 := (hb.alloc hsr (.cells #[.string x.key, .string x.val] 42)).alloc (by simp; omega) (.cells #[.string y.key, .string y.val] 42)
        have HB2 := Lib.hid hb2
        clear hst hct hcv hb2 hx hy hbb1 hbb2
        by_cases h0 : cv = 0
        · subst h0
          have hd := HST.out
          rw [if_neg (by simp)] at hd
          have HD2 := Lib.hid hd
          clear hd
          go_wp2_with (go_at_call 65; refine (HCT.out _).mono ?_; rintro en w' ⟨rfl, hb3⟩)
          go_roundw
          case rel => exact ⟨j + 1, by omega, by omega, by go_num, HD2.out.symm, HB2.out.trans (hb3.mono HB2.out.size)⟩
          case measure => simp [intOf]; omega
        · have hxb : (cv != 0) = true := by simp [h0]
          have hd := HST.out
          rw [if_pos h0] at hd
          have HD2 := Lib.hid hd
          clear hd
          go_wp2_with (go_at_call 65; refine (HCT.out _).mono ?_; rintro en w' ⟨rfl, hb3⟩)
          go_ret
          exact ⟨by rw [HD2.out]; rfl, HB2.out.trans (hb3.mono HB2.out.size)⟩
      · have hlm' : (m : Int) ≤ (j : Int) := by omega
        have hq1 : q = 1 := by
          have h1 := (List.getElem?_eq_some_iff.1 hx).1
          rw [← HD.out, show lb.drop j = [] from List.drop_eq_nil_of_le (by rw [HM.out]; omega), List.drop_eq_getElem_cons h1, cmpTL]
        have HQ1 := Lib.hid hq1
        clear hq1 hx
        go_wp2
        go_ret
        exact ⟨by rw [HQ1.out]; rfl, hb.alloc hsr _⟩
    · have hlt' : decide ((j : Int) < (n : Int)) = false := by simp; omega
      obtain rfl : j = n := by omega
      have e1 : la.drop j = [] := List.drop_eq_nil_of_le (by rw [HN.out]; omega)
      have hd := HD.out
      rw [e1] at hd
      by_cases hlm : j < m
      · have hlm2 : (j : Int) < (m : Int) := by omega
        have hq1 : q = -1 := by
          have h1 : j < lb.length := by rw [HM.out]; exact hlm
          rw [← hd, List.drop_eq_getElem_cons h1, cmpTL]
        have HQ1 := Lib.hid hq1
        clear hq1 hd e1
        go_wp2
        go_ret
        exact ⟨by rw [HQ1.out]; rfl, hb⟩
      · have hlm2 : decide ((j : Int) < (m : Int)) = false := by simp; omega
        have hq1 : q = 0 := by
          rw [← hd, List.drop_eq_nil_of_le (by rw [HM.out]; omega), cmpTL]
        have HQ1 := Lib.hid hq1
        clear hq1 hd e1
        go_wp2
        go_ret
        exact ⟨by rw [HQ1.out]; rfl, hb⟩
end Go.Proofs.Ytohnpogoldbplaa
