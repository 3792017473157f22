/- Texts of the proof of DepsNamesSaid, joined: SrB DeE DeG Sort GrS DeI DeL DeJ. -/
import Derived.Deep.Cut
import Derived.Test.YthaiplhjekkooaaJDepsNames4
import Derived.Test.YthaiplhjekkooaaJDepsNames2
import Derived.BigRegion
import Derived.StillTailTactics
import Derived.Laws.Small
import Derived.Maps.AppendAt
import Derived.Test.YthaiplhjekkooaaJDepsNames3
import Derived.Shelf.SlGeneric
import Derived.Shelf.SlSortCmp.WholeK
import Derived.Ground.SlsfProg
import Derived.Test.YthaiplhjekkooaaProg
import Derived.Sort.Grow
import Derived.Shelf.SlSortCmp.NoneTotal
/- Spans, the document's answer: Check. -/
namespace Go.Proofs.Ythaiplhjekkooaa
open Go.RowKit

set_option maxRecDepth 100000 in
set_option maxHeartbeats 8000000 in
/-- Check. -/
theorem rSpCheck {A : Option Addr} {c n B : Nat} (s : Sp) (w : World) (hf : RbT w B A s.tags) (hn : s.tags.length = n) (hB : B ≤ w.heap.size) (hnl : n ≤ 9223372036854775807) :
    Calls Try.prog 37 #[spV s A n c] w fun e w' => e = .returned (.int .i64 (spChk s)) ∧ Below w.heap.size w w' := by
  have hb0 : Below w.heap.size w (w.alloc (.cells (spC s A n c) 43)) := (Below.refl _ w).alloc (Nat.le_refl _) _
  have hf1 := Rd.alloc hf hB (.cells (spC s A n c) 43)
  have bk := Bk.new w 43 (spC s A n c)
  obtain ⟨w1, hw1⟩ : ∃ w1, w.alloc (.cells (spC s A n c) 43) = w1 := ⟨_, rfl⟩
  rw [hw1] at hb0 hf1 bk
  have HW := Lib.hid hw1
  obtain ⟨g, hg⟩ : ∃ g, w.heap.size = g := ⟨_, rfl⟩
  rw [hg] at bk
  have HG := Lib.hid hg
  obtain ⟨q, hq⟩ : ∃ q, spChk s = q := ⟨_, rfl⟩
  rw [hq]
  have HQ := Lib.hid hq
  have HN := Lib.hid hn
  have HB0 := Lib.hid hb0
  have HF1 := Lib.hid hf1
  have k0 : w1.cell? ⟨g, 0, none⟩ = some (.int .u64 s.hi) := bk.cell 0
  have k1 : w1.cell? ⟨g, 1, none⟩ = some (.int .u64 s.lo) := bk.cell 1
  have k2 : w1.cell? ⟨g, 2, none⟩ = some (.int .u64 s.id) := bk.cell 2
  have k4 : w1.cell? ⟨g, 4, none⟩ = some (.string s.service) := bk.cell 4
  have k5 : w1.cell? ⟨g, 5, none⟩ = some (.string s.name) := bk.cell 5
  have k6 : w1.cell? ⟨g, 6, none⟩ = some (.int .i64 s.kind) := bk.cell 6
  have k7 : w1.cell? ⟨g, 7, none⟩ = some (.int .i64 s.start) := bk.cell 7
  have k8 : w1.cell? ⟨g, 8, none⟩ = some (.int .i64 s.length) := bk.cell 8
  have k10 : w1.cell? ⟨g, 10, none⟩ = some (.slice A n c) := bk.cell 10
  obtain ⟨h0, hh0⟩ : ∃ h0, (decide (128 < s.service.size) || decide (128 < s.name.size) || decide (16 < n)) = h0 := ⟨_, rfl⟩
  have hlb : longB s = (h0 || s.tags.any tgLong) := by rw [longB, hn, hh0]
  have HLB := Lib.hid hlb
  have HH0 := Lib.hid hh0
  have HKK := Lib.hid (And.intro k0 (And.intro k1 (And.intro k2 (And.intro k4 (And.intro k5 (And.intro k6 (And.intro k7 k8)))))))
  have hsplit : (128 < s.service.size ∧ h0 = true) ∨ (s.service.size ≤ 128 ∧ 128 < s.name.size ∧ h0 = true) ∨ (s.service.size ≤ 128 ∧ s.name.size ≤ 128 ∧ 16 < n ∧ h0 = true) ∨ (s.service.size ≤ 128 ∧ s.name.size ≤ 128 ∧ n ≤ 16 ∧ h0 = false) := by
    rw [← hh0]
    by_cases a1 : 128 < s.service.size
    · exact .inl ⟨a1, by simp [a1]⟩
    by_cases a2 : 128 < s.name.size
    · exact .inr (.inl ⟨by omega, a2, by simp [a2]⟩)
    by_cases a3 : 16 < n
    · exact .inr (.inr (.inl ⟨by omega, by omega, a3, by simp [a3]⟩))
    · exact .inr (.inr (.inr ⟨by omega, by omega, by omega, by simp; omega⟩))
  clear hw1 hg hq hn hb0 hf1 hf bk hh0 hlb k0 k1 k2 k6 k7 k8
  rcases hsplit with ⟨a1, a0⟩ | ⟨a1, a2, a0⟩ | ⟨a1, a2, a3, a0⟩ | ⟨a1, a2, a3, a0⟩
  case inr.inr.inr =>
    subst a0
    have b1 : decide ((128 : Int) < (s.service.size : Int)) = false := by simp; omega
    have b2 : decide ((128 : Int) < (s.name.size : Int)) = false := by simp; omega
    have b3 : decide ((16 : Int) < (n : Int)) = false := by simp; omega
    go_enter Try.func37, Try.ntmps37
    go_upto_region 1 with fail
    rw [HW.out, HG.out]
    go_wp2
    go_loop [3, 4] (fun lv_ iv_ => ∃ j : Nat, j ≤ n ∧ iv_ = .int .i64 j ∧ lv_ = .bool ((s.tags.take j).any tgLong)) (fun _ i => n - (intOf i).toNat)
    case atStart => exact ⟨0, by omega, rfl, rfl⟩
    case round =>
      obtain ⟨j, hj, rfl, rfl⟩ := hrel
      obtain ⟨f, hf⟩ : ∃ f, (s.tags.take j).any tgLong = f := ⟨_, rfl⟩
      rw [hf]
      have HF := Lib.hid hf
      clear hf
      by_cases hlt : j < n
      · have hlt' : (j : Int) < (n : Int) := by omega
        obtain ⟨x, hx⟩ : ∃ x, s.tags[j]? = some x := ⟨_, List.getElem?_eq_getElem (by rw [HN.out]; exact hlt)⟩
        obtain ⟨b, o, rfl, hbb, c1, c2⟩ := RbT.get HF1.out hx
        have hst : (s.tags.take (j + 1)).any tgLong = (f || tgLong x) := by rw [take_snoc hx, List.any_append, HF.out]; simp
        clear hx
        cases f with
        | true =>
          have h9 : (s.tags.take (j + 1)).any tgLong = true := by rw [hst]; rfl
          have HST := Lib.hid h9
          clear hst h9
          go_wp2
          go_round
          case rel => exact ⟨j + 1, by omega, by go_num, by rw [HST.out]⟩
          case measure => simp [intOf]; omega
        | false =>
          by_cases e1 : 128 < x.key.size
          · have e1' : (128 : Int) < (x.key.size : Int) := by omega
            have h9 : (s.tags.take (j + 1)).any tgLong = true := by rw [hst, tgLong, decide_eq_true e1]; simp
            have HST := Lib.hid h9
            clear hst h9
            go_wp2
            go_round
            case rel => exact ⟨j + 1, by omega, by go_num, by rw [HST.out]⟩
            case measure => simp [intOf]; omega
          have e1' : decide ((128 : Int) < (x.key.size : Int)) = false := by simp; omega
          by_cases e2 : 128 < x.val.size
          · have e2' : (128 : Int) < (x.val.size : Int) := by omega
            have h9 : (s.tags.take (j + 1)).any tgLong = true := by rw [hst, tgLong, decide_eq_true e2]; simp
            have HST := Lib.hid h9
            clear hst h9
            go_wp2
            go_round
            case rel => exact ⟨j + 1, by omega, by go_num, by rw [HST.out]⟩
            case measure => simp [intOf]; omega
          have e2' : decide ((128 : Int) < (x.val.size : Int)) = false := by simp; omega
          have h9 : (s.tags.take (j + 1)).any tgLong = false := by rw [hst, tgLong, decide_eq_false e1, decide_eq_false e2]; rfl
          have HST := Lib.hid h9
          clear hst h9
          go_wp2
          go_round
          case rel => exact ⟨j + 1, by omega, by go_num, by rw [HST.out]⟩
          case measure => simp [intOf]; omega
      · have hlt' : decide ((j : Int) < (n : Int)) = false := by simp; omega
        obtain rfl : j = n := by omega
        have hf := HF.out
        rw [List.take_of_length_le (by rw [HN.out]; omega)] at hf
        have hlb : longB s = f := by rw [HLB.out, hf]; rfl
        clear HF
        cases f with
        | true =>
          have hq3 : q = 3 := by rw [← HQ.out, spChk, if_pos hlb]
          have HQ3 := Lib.hid hq3
          clear hlb hq3 hf
          go_wp2
          go_ret
          exact ⟨by rw [HQ3.out]; rfl, HB0.out⟩
        | false =>
          obtain ⟨k0, k1, k2, k4', k5', k6, k7, k8⟩ := HKK.out
          have hq2 : q = if headB s && tagsOk s.tags j then 0 else 2 := by rw [← HQ.out, spChk, if_neg (by rw [hlb]; simp), HN.out]
          have HQ2 := Lib.hid hq2
          have hw := headWays s a1 a2
          clear hlb hq2
          rcases hw with ⟨hh, hw⟩ | ⟨hh, a0, a1', a2', a3', a4, a5, a6, a7, a8, a9, a10, a11⟩
          · have hq2 : q = 2 := by rw [HQ2.out, hh]; rfl
            have HQ3 := Lib.hid hq2
            clear hh hq2 HQ2 hf
            rcases hw with ⟨a0, a0'⟩ | ⟨a0, a1' | ⟨a1', a2' | ⟨a2', a3' | ⟨a3', a4 | ⟨a4, a5 | ⟨a5, a6 | ⟨a6, a7 | ⟨a7, a8 | ⟨a8, a9 | ⟨a9, a10 | ⟨a10, a11⟩⟩⟩⟩⟩⟩⟩⟩⟩⟩⟩
            all_goals first
              | (have d1 : ((s.id : Int) == 0) = false := by rw [beq_eq_false_iff_ne]; omega)
              | (have d1 : ((s.id : Int) == 0) = true := by rw [a1']; rfl)
              | skip
            all_goals first
              | (have d2 : (s.service.toList == []) = false := by rw [str_empty, decide_eq_false_iff_not]; omega)
              | (have d2 : (s.service.toList == []) = true := by rw [str_empty, decide_eq_true_iff]; omega)
              | skip
            all_goals first
              | (have d3 : (s.name.toList == []) = false := by rw [str_empty, decide_eq_false_iff_not]; omega)
              | (have d3 : (s.name.toList == []) = true := by rw [str_empty, decide_eq_true_iff]; omega)
              | skip
            all_goals
              go_wp2_with (go_at_call 53; refine (rPlain _ _ (by omega)).mono ?_; rintro e w' ⟨rfl, hw⟩; rw [hw]; clear hw w'; first | rw [a4] | rw [a5])
              all_goals go_ret
              all_goals exact ⟨by rw [HQ3.out]; rfl, HB0.out⟩
          · have hq2 : q = if tagsOk s.tags j = true then 0 else 2 := by rw [HQ2.out, hh]; rfl
            have HQ3 := Lib.hid hq2
            have hlg : ∀ x ∈ s.tags, x.key.size ≤ 128 ∧ x.val.size ≤ 128 := fun x hx => by
              have := List.any_eq_false.1 hf x hx
              simp only [tgLong, Bool.or_eq_true, decide_eq_true_eq, not_or] at this
              omega
            have HLG := Lib.hid hlg
            have d1 : ((s.id : Int) == 0) = false := by rw [beq_eq_false_iff_ne]; omega
            have d2 : (s.service.toList == []) = false := by rw [str_empty, decide_eq_false_iff_not]; omega
            have d3 : (s.name.toList == []) = false := by rw [str_empty, decide_eq_false_iff_not]; omega
            clear hh hq2 HQ2 hlg hf
            go_wp2_with (go_at_call 53; refine (rPlain _ _ (by omega)).mono ?_; rintro e w' ⟨rfl, hw⟩; rw [hw]; clear hw w'; first | rw [a4] | rw [a5])
            all_goals
              clear k0 k1 k2 k4 k5 k6 k7 k8 k4' k5' d1 d2 d3 a0 a1' a2' a3' a4 a5 a6 a7 a8 a9 a10 a11
              go_loopw [5] (fun iv_ wr => ∃ i : Nat, i ≤ j ∧ iv_ = .int .i64 i ∧ tagsOk s.tags i = true ∧ ∃ d, wr = w1.drewN d) (fun i _ => j - (intOf i).toNat)
              case atStart => exact ⟨0, by omega, rfl, rfl, 0, rfl⟩
              case round =>
                obtain ⟨i, hi, rfl, hall, d, rfl⟩ := hrel
                have HA := Lib.hid hall
                clear hall
                have k10' : (w1.drewN d).cell? ⟨g, 10, none⟩ = some (.slice A j c) := k10
                by_cases hlt : i < j
                · have hlt' : (i : Int) < (j : Int) := by omega
                  obtain ⟨x, hx⟩ : ∃ x, s.tags[i]? = some x := ⟨_, List.getElem?_eq_getElem (by rw [HN.out]; exact hlt)⟩
                  obtain ⟨b, o, rfl, hbb, c1, c2⟩ := RbT.get HF1.out hx
                  have c1' : (w1.drewN d).cell? ⟨b, o + i * 2, none⟩ = some (.string x.key) := c1
                  have c2' : (w1.drewN d).cell? ⟨b, o + i * 2 + 1, none⟩ = some (.string x.val) := c2
                  go_wp2_with fail
                  have hlg := HLG.out x (List.mem_of_getElem? hx)
                  have hat := tagOk_at hx
                  have hsucc := tagsOk_succ s.tags i
                  rw [HA.out, hat] at hsucc
                  have hbad : tagOk s.tags i = false → q = 2 := fun h => by rw [HQ3.out, tagsOk_false h hlt]; rfl
                  rw [hat] at hbad
                  have en : nameB x.key = (decide (0 < x.key.size) && plainB x.key) := by simp [nameB, txtB, hlg.1]
                  have et : txtB x.val = plainB x.val := by simp [txtB, hlg.2]
                  rw [en, et] at hsucc hbad
                  clear hat en et
                  have hlg1 := hlg.1
                  have hlg2 := hlg.2
                  by_cases z0 : x.key.size = 0
                  · have d2 : (x.key.toList == []) = true := by rw [str_empty, decide_eq_true_iff]; omega
                    have hq2 := hbad (by rw [decide_eq_false (by omega)]; rfl)
                    have HQ4 := Lib.hid hq2
                    clear hq2 hbad hsucc hx hlg z0
                    go_quiet (fail)
                    go_wp2
                    go_ret
                    exact ⟨by rw [HQ4.out]; rfl, below_drewN (below_drewN HB0.out d) _⟩
                  have d2 : (x.key.toList == []) = false := by rw [str_empty, decide_eq_false_iff_not]; omega
                  rw [decide_eq_true (show 0 < x.key.size by omega), Bool.true_and] at hsucc hbad
                  obtain ⟨n1, hn1⟩ : ∃ n1, plainB x.key = n1 := ⟨_, rfl⟩
                  have cN : ∀ W', Calls Try.prog 53 #[.string x.key] W' fun e w' => e = .returned (.bool n1) ∧ w' = W' := by intro W'; have := rPlain W' x.key (by omega); rwa [hn1] at this
                  obtain ⟨n2, hn2⟩ : ∃ n2, plainB x.val = n2 := ⟨_, rfl⟩
                  have cT : ∀ W', Calls Try.prog 53 #[.string x.val] W' fun e w' => e = .returned (.bool n2) ∧ w' = W' := by intro W'; have := rPlain W' x.val (by omega); rwa [hn2] at this
                  rw [hn1, hn2] at hsucc hbad
                  clear hn1 hn2
                  cases n1 with
                  | false =>
                    have hq2 := hbad rfl
                    have HQ4 := Lib.hid hq2
                    clear hq2 hbad hsucc hx hlg z0
                    go_quiet ((go_at_call_of 53 (Value.string x.key); go_loud (exact (cN _).mono (fun _ _ h => ⟨h.1, _, h.2⟩))))
                    go_wp2
                    go_ret
                    exact ⟨by rw [HQ4.out]; rfl, below_drewN (below_drewN HB0.out d) _⟩
                  | true =>
                  cases n2 with
                  | false =>
                    have hq2 := hbad rfl
                    have HQ4 := Lib.hid hq2
                    clear hq2 hbad hsucc hx hlg z0
                    go_quiet (first
                      | (go_at_call_of 53 (Value.string x.key); go_loud (exact (cN _).mono (fun _ _ h => ⟨h.1, _, h.2⟩)))
                      | (go_at_call_of 53 (Value.string x.val); go_loud (exact (cT _).mono (fun _ _ h => ⟨h.1, _, h.2⟩))))
                    go_wp2
                    go_ret
                    exact ⟨by rw [HQ4.out]; rfl, below_drewN (below_drewN HB0.out d) _⟩
                  | true =>
                  cases i with
                  | zero =>
                    have HST := Lib.hid (show tagsOk s.tags (0 + 1) = true from hsucc)
                    have z1 : (0 : Int) < (j : Int) := by omega
                    have z2 : 0 < j := by omega
                    have c3 : w1.cell? ⟨b, o, none⟩ = some (.string x.key) := by simpa using c1
                    have c4 : w1.cell? ⟨b, o + 1, none⟩ = some (.string x.val) := by simpa using c2
                    have c3' : (w1.drewN d).cell? ⟨b, o, none⟩ = some (.string x.key) := c3
                    have c4' : (w1.drewN d).cell? ⟨b, o + 1, none⟩ = some (.string x.val) := c4
                    clear hbad hsucc hx hlg z0
                    go_quiet (first
                      | (go_at_call_of 53 (Value.string x.key); go_loud (exact (cN _).mono (fun _ _ h => ⟨h.1, _, h.2⟩)))
                      | (go_at_call_of 53 (Value.string x.val); go_loud (exact (cT _).mono (fun _ _ h => ⟨h.1, _, h.2⟩))))
                    go_wp2
                    go_roundw
                    case rel => exact ⟨0 + 1, by omega, by go_num, HST.out, _, rfl⟩
                    case measure => simp [intOf]; omega
                  | succ k =>
                    obtain ⟨u, hu⟩ : ∃ u, s.tags[k]? = some u := ⟨_, List.getElem?_eq_getElem (by rw [HN.out]; omega)⟩
                    obtain ⟨b', o', e', _, p1, _⟩ := RbT.get HF1.out hu
                    cases e'
                    have p1' : (w1.drewN d).cell? ⟨b, o + k * 2, none⟩ = some (.string u.key) := p1
                    have e1 : (k : Int) + 1 - 1 = (k : Int) := by omega
                    have e2 : ((k : Int) + 1 == 0) = false := by rw [beq_eq_false_iff_ne]; omega
                    have e3 : (0 : Int) < (k : Int) + 1 := by omega
                    have hkn : (k : Int) < (j : Int) := by omega
                    have hkn' : k < j := by omega
                    rw [show k + 1 - 1 = k from rfl, hu] at hsucc hbad
                    have hway := strLt_ways x.key u.key
                    clear hu hlg z0 hx
                    rcases hway with ⟨l1, -⟩ | ⟨l1, l2, -⟩ | ⟨l1, l2, -⟩
                    · have l2 : strLt u.key x.key = false := by
                        cases h2 : strLt u.key x.key with
                        | false => rfl
                        | true =>
                          rw [stw_ltb] at l1 h2
                          have := stw_tr _ _ _ l1 h2
                          rw [stw_irr] at this
                          cases this
                      have hq2 := hbad (by simp [l2])
                      have l3 : (x.key.toList == u.key.toList) = false := by
                        rw [strEq_of', decide_eq_false_iff_not]
                        intro e
                        rw [e] at l1
                        rw [e, l1] at l2
                        cases l2
                      unfold strLt at l1
                      clear l2
                      have HQ4 := Lib.hid hq2
                      clear hq2 hbad hsucc
                      go_quiet (first
                        | (go_at_call_of 53 (Value.string x.key); go_loud (exact (cN _).mono (fun _ _ h => ⟨h.1, _, h.2⟩)))
                        | (go_at_call_of 53 (Value.string x.val); go_loud (exact (cT _).mono (fun _ _ h => ⟨h.1, _, h.2⟩))))
                      go_wp2
                      go_ret
                      exact ⟨by rw [HQ4.out]; rfl, below_drewN (below_drewN HB0.out d) _⟩
                    · have l3 : (x.key.toList == u.key.toList) = false := by
                        rw [strEq_of', decide_eq_false_iff_not]
                        intro e
                        rw [e] at l1 l2
                        rw [l1] at l2
                        cases l2
                      have HST := Lib.hid (show tagsOk s.tags (k + 1 + 1) = true by rw [hsucc]; simp [l2])
                      unfold strLt at l1
                      clear hbad hsucc l2
                      go_quiet (first
                        | (go_at_call_of 53 (Value.string x.key); go_loud (exact (cN _).mono (fun _ _ h => ⟨h.1, _, h.2⟩)))
                        | (go_at_call_of 53 (Value.string x.val); go_loud (exact (cT _).mono (fun _ _ h => ⟨h.1, _, h.2⟩))))
                      go_wp2
                      go_roundw
                      case rel => exact ⟨k + 1 + 1, by omega, by go_num, HST.out, _, rfl⟩
                      case measure => simp [intOf]; omega
                    · have hq2 := hbad (by simp [l2])
                      have l3 : (x.key.toList == u.key.toList) = true := by
                        rw [strEq_of', decide_eq_true_iff]
                        rw [stw_ltb] at l1 l2
                        exact nums_inj (stw_tri _ _ l1 l2)
                      unfold strLt at l1
                      clear l2
                      have HQ4 := Lib.hid hq2
                      clear hq2 hbad hsucc
                      go_quiet (first
                        | (go_at_call_of 53 (Value.string x.key); go_loud (exact (cN _).mono (fun _ _ h => ⟨h.1, _, h.2⟩)))
                        | (go_at_call_of 53 (Value.string x.val); go_loud (exact (cT _).mono (fun _ _ h => ⟨h.1, _, h.2⟩))))
                      go_wp2
                      go_ret
                      exact ⟨by rw [HQ4.out]; rfl, below_drewN (below_drewN HB0.out d) _⟩
                · have hlt' : decide ((i : Int) < (j : Int)) = false := by simp; omega
                  obtain rfl : i = j := by omega
                  go_wp2
                  go_ret
                  exact ⟨by rw [HQ3.out, if_pos HA.out]; rfl, below_drewN HB0.out _⟩
  all_goals
    subst a0
    have hq3 : q = 3 := by rw [← HQ.out, spChk, if_pos (by rw [HLB.out]; rfl)]
    first
      | (have e1 : (128 : Int) < (s.service.size : Int) := by omega)
      | (have e1 : decide ((128 : Int) < (s.service.size : Int)) = false := by simp; omega)
    first
      | (have e2 : (128 : Int) < (s.name.size : Int) := by omega)
      | (have e2 : decide ((128 : Int) < (s.name.size : Int)) = false := by simp; omega)
      | skip
    first
      | (have e3 : (16 : Int) < (n : Int) := by omega)
      | skip
    have HQ3 := Lib.hid hq3
    clear hq3
    go_enter Try.func37, Try.ntmps37
    go_upto_region 1 with fail
    rw [HW.out, HG.out]
    go_wp2
    go_loop [3, 4] (fun lv_ iv_ => ∃ j : Nat, j ≤ n ∧ iv_ = .int .i64 j ∧ lv_ = .bool true) (fun _ i => n - (intOf i).toNat)
    case atStart => exact ⟨0, by omega, rfl, rfl⟩
    case round =>
      obtain ⟨j, hj, rfl, rfl⟩ := hrel
      by_cases hlt : j < n
      · have hlt' : (j : Int) < (n : Int) := by omega
        go_wp2
        go_round
        case rel => exact ⟨j + 1, by omega, by go_num, rfl⟩
        case measure => simp [intOf]; omega
      · have hlt' : decide ((j : Int) < (n : Int)) = false := by simp; omega
        go_wp2
        go_ret
        exact ⟨by rw [HQ3.out]; rfl, HB0.out⟩
end Go.Proofs.Ythaiplhjekkooaa

/- Edges: the document's Edges. -/
namespace Go.Proofs.Ythaiplhjekkooaa
open Go.RowKit
theorem loadSp_shutE (a : Addr) : loadVar 43 a = loadK 43 a := rfl
attribute [local go_sem ↓] loadSp_shutE

set_option maxRecDepth 100000 in
theorem loadK_aeSpD {w : World} {b o i : Nat} {e : AE} (h : ∀ j, j < 14 → w.cell? ⟨b, o + (i * 14 + j), none⟩ = (aeC e)[j]?) : (loadK 43 ⟨b, o + i * 14, none⟩).run Try.prog w = .ok (spV e.a.s e.A e.n e.c) w :=
  run_loadVar_cells w _ _ ⟨b, o + i * 14, none⟩ (spC e.a.s e.A e.n e.c).toList Try.underlying43 rfl (by rfl) (fun j v hv => by
    have hj : j < 11 := (List.getElem?_eq_some_iff.1 hv).1
    rw [Addr.add_lit, Nat.add_assoc, h j (by omega), ← hv]
    have h14 : ∀ j, j < 11 → (aeC e)[j]? = (spC e.a.s e.A e.n e.c).toList[j]? := by
      intro j hj
      have : j = 0 ∨ j = 1 ∨ j = 2 ∨ j = 3 ∨ j = 4 ∨ j = 5 ∨ j = 6 ∨ j = 7 ∨ j = 8 ∨ j = 9 ∨ j = 10 := by omega
      rcases this with rfl | rfl | rfl | rfl | rfl | rfl | rfl | rfl | rfl | rfl | rfl <;> rfl
    exact h14 j hj)
theorem spErr_dropD {l : List Sp} {k : Nat} {x : Sp} (h : l[k]? = some x) : spErr (l.drop k) = if spChk x ≠ 0 then spChk x else spErr (l.drop (k + 1)) := by
  obtain ⟨hk, rfl⟩ := List.getElem?_eq_some_iff.1 h
  rw [List.drop_eq_getElem_cons hk, spErr]
def ads (l : List AE) : List Ad := l.map (·.a)
theorem ads_get {l : List AE} {i : Nat} {e : AE} (h : l[i]? = some e) : (ads l)[i]? = some e.a := by simp [ads, h]
theorem ads_len (l : List AE) : (ads l).length = l.length := by simp [ads]
/-- Has one of the first k the ID of x? -/
def dupTo (l : List Ad) (x : Ad) (k : Nat) : Bool := (List.range k).any fun j => match l[j]? with | some y => decide (y.s.id = x.s.id) | none => false
def edBadAt (l : List Ad) (i : Nat) : Bool := match l[i]? with | some x => decide (x.s.start < 0) || dupTo l x i | none => false
def edBadTo (l : List Ad) (i : Nat) : Bool := (List.range i).any (edBadAt l)
/-- A span's call of another service. -/
def edStep (size : Int) (x y : Ad) (out : List Ed) : List Ed :=
  if x.up ≠ 0 ∧ y.s.id = x.up ∧ y.s.service ≠ x.s.service then (addE ⟨(bktOf x.s.start size).1, y.s.service, x.s.service, 1⟩ out).1 else out
def edAt (size : Int) (l : List Ad) (x : Ad) (out : List Ed) (k : Nat) : List Ed := match l[k]? with | some y => edStep size x y out | none => out
def edRow (size : Int) (l : List Ad) (out : List Ed) (i : Nat) : List Ed := match l[i]? with | some x => (List.range l.length).foldl (edAt size l x) out | none => out
/-- What Edges answers. -/
def edOut (l : List Ad) (size : Int) : List Ed × Nat :=
  if size < 1 then ([], 2) else if edBadTo l l.length = true then ([], 2) else if spErr (l.map (·.s)) ≠ 0 then ([], spErr (l.map (·.s))) else ((List.range l.length).foldl (edRow size l) [], 0)
theorem dupTo_succ {l : List Ad} {x y : Ad} {k : Nat} (h : l[k]? = some y) : dupTo l x (k + 1) = (dupTo l x k || decide (y.s.id = x.s.id)) := by simp [dupTo, List.range_succ, h]
theorem edBadTo_succ (l : List Ad) (i : Nat) : edBadTo l (i + 1) = (edBadTo l i || edBadAt l i) := by simp [edBadTo, List.range_succ]
theorem any_le {f : Nat → Bool} {i n : Nat} (h : i ≤ n) (hi : (List.range i).any f = true) : (List.range n).any f = true := by
  rw [List.any_eq_true] at hi ⊢
  obtain ⟨j, hj, hf⟩ := hi
  exact ⟨j, List.mem_range.2 (by have := List.mem_range.1 hj; omega), hf⟩
/-- Numbers that stay small. -/
def EdFew (l : List Ed) : Prop := ∀ y ∈ l, y.n ≤ 4611686018427387904
theorem addE_few {x : Ed} {l : List Ed} (hx : x.n ≤ 4611686018427387904) (h : EdFew l) : EdFew (addE x l).1 ∧ (addE x l).1.length ≤ l.length + 1 := by
  have hins : EdFew (l.take (addPos x l) ++ x :: l.drop (addPos x l)) ∧ (l.take (addPos x l) ++ x :: l.drop (addPos x l)).length ≤ l.length + 1 := by
    refine ⟨fun y hy => ?_, by simp only [List.length_append, List.length_cons, List.length_take, List.length_drop]; omega⟩
    rcases List.mem_append.1 hy with hy | hy
    · exact h y (List.mem_of_mem_take hy)
    · rcases List.mem_cons.1 hy with rfl | hy
      · exact hx
      · exact h y (List.mem_of_mem_drop hy)
  unfold addE
  cases hy : l[addPos x l]? with
  | none => exact hins
  | some y =>
    simp only []
    by_cases h1 : edLt x y = true
    · rw [if_pos h1]; exact hins
    · rw [if_neg h1]
      by_cases h2 : 4611686018427387904 < x.n ∨ 4611686018427387904 - x.n < y.n
      · rw [if_pos h2]; exact ⟨h, Nat.le_succ _⟩
      · rw [if_neg h2]
        refine ⟨fun z hz => ?_, by rw [List.length_set]; exact Nat.le_succ _⟩
        rcases List.mem_or_eq_of_mem_set hz with hz | rfl
        · exact h z hz
        · show y.n + x.n ≤ _; omega
/-- What Edges hands back. -/
def EdsPost (w : World) (r : List Ed × Nat) (e : Ending) (w' : World) : Prop :=
  ∃ A' c', e = .returned (.tuple #[.slice A' r.1.length c', .int .i64 r.2]) ∧ w'.ownsRow w.heap.size 47 4 (.slice A' r.1.length c') r.1.length (eds r.1) ∧ Below w.heap.size w w'
theorem EdsPost.no {w w' : World} {q : Nat} (hb : Below w.heap.size w w') : EdsPost w ([], q) (.returned (.tuple #[.slice none 0 0, .int .i64 q])) w' := ⟨none, 0, rfl, World.ownsRow_nil _ _ _ _, hb⟩
set_option maxRecDepth 100000 in
set_option maxHeartbeats 8000000 in
theorem rDeEdges {A : Option Addr} {n c B : Nat} (l : List AE) (size : Int) (w : World) (h : RbA w B A l) (hn : l.length = n) (hB : B ≤ w.heap.size) (hnl : n ≤ 200) (hs0 : -9223372036854775808 ≤ size) (hs1 : size ≤ 9223372036854775807)
    (hst : ∀ e ∈ l, e.a.s.start ≤ 9223372036854775807 ∧ -9223372036854775808 ≤ e.a.s.start) :
    Calls Try.prog 11 #[.slice A n c, .int .i64 size] w (EdsPost w (edOut (ads l) size)) := by
  obtain ⟨r, hr⟩ : ∃ r, edOut (ads l) size = r := ⟨_, rfl⟩
  rw [hr]
  by_cases hz : size < 1
  · have hz' : decide (size < 1) = true := by simp [hz]
    have hre : r = ([], 2) := by rw [← hr, edOut, if_pos hz]
    subst hre
    go_enter Try.func11, Try.ntmps11
    go_wp2_with fail
    go_ret2
    exact EdsPost.no (Below.refl _ _)
  have hz' : decide (size < 1) = false := by simp; omega
  have hr1 : r = if edBadTo (ads l) n = true then ([], 2) else if spErr ((ads l).map (·.s)) ≠ 0 then ([], spErr ((ads l).map (·.s))) else ((List.range n).foldl (edRow size (ads l)) [], 0) := by
    rw [← hr, edOut, if_neg hz, ads_len, hn]
  have HR := Lib.hid hr1
  have HN := Lib.hid hn
  have HST := Lib.hid hst
  have HH := Lib.hid h
  clear hr hr1 hn hst h
  go_enter Try.func11, Try.ntmps11
  go_wp2_with fail
  go_loopw [6] (fun i_ wr => ∃ i : Nat, i ≤ n ∧ i_ = .int .i64 i ∧ Hid (edBadTo (ads l) i = false) ∧ Below w.heap.size w wr) (fun i_ _ => n - (intOf i_).toNat)
  case atStart => exact ⟨0, by omega, rfl, Lib.hid rfl, Below.refl _ _⟩
  case round =>
    obtain ⟨i, hi, rfl, HG, hb⟩ := hrel
    by_cases hlt : i < n
    · have hlt' : (i : Int) < (n : Int) := by omega
      obtain ⟨x, hx⟩ : ∃ x, l[i]? = some x := ⟨_, List.getElem?_eq_getElem (by rw [HN.out]; exact hlt)⟩
      obtain ⟨b, o, eA, hbb, hc, -⟩ := (HH.out.below (hb.mono hB)).get hx
      subst eA
      have cs : wr.cell? ⟨b, o + i * 14 + 7, none⟩ = some (.int .i64 x.a.s.start) := by rw [Nat.add_assoc]; exact hc 7 (by omega)
      have cid : Hid (∀ W, Below w.heap.size w W → ∀ (k : Nat) (y : AE), l[k]? = some y → W.cell? ⟨b, o + k * 14 + 2, none⟩ = some (.int .u64 y.a.s.id)) := Lib.hid fun W hW k y hy => by
        obtain ⟨b', o', e', -, hc', -⟩ := (HH.out.below (hW.mono hB)).get hy
        cases e'
        rw [Nat.add_assoc]
        exact hc' 2 (by omega)
      obtain ⟨sa, hsa⟩ : ∃ sa, x.a.s.start = sa := ⟨_, rfl⟩
      rw [hsa] at cs
      have HX := Lib.hid hx
      have HSA := Lib.hid hsa
      have hbs := edBadTo_succ (ads l) i
      rw [HG.out, Bool.false_or, edBadAt, ads_get hx] at hbs
      simp only [hsa] at hbs
      have HBS := Lib.hid hbs
      clear hbs hx hsa hc
      by_cases h0 : sa < 0
      · have h0' : decide (sa < 0) = true := by simp [h0]
        have hre : r = ([], 2) := by
          have h1 : edBadTo (ads l) n = true := any_le (show i + 1 ≤ n by omega) (by have := HBS.out; rw [h0', Bool.true_or] at this; exact this)
          rw [HR.out, if_pos h1]
        subst hre
        go_wp2_with fail
        go_ret2
        exact EdsPost.no hb
      · have h0' : decide (sa < 0) = false := by simp; omega
        have hbs := HBS.out
        rw [h0', Bool.false_or] at hbs
        have HBS2 := Lib.hid hbs
        clear hbs HBS
        go_wp2_with fail
        have HBO := Lib.hid hb
        obtain ⟨wO, hwO⟩ : ∃ wO, wO = wr := ⟨_, rfl⟩
        subst hwO
        go_loopw [7] (fun k_ wr2 => ∃ k : Nat, k ≤ i ∧ k_ = .int .i64 k ∧ Hid (dupTo (ads l) x.a k = false) ∧ Below w.heap.size w wr2) (fun k_ _ => i - (intOf k_).toNat)
        case atStart => exact ⟨0, by omega, rfl, Lib.hid rfl, hb⟩
        case round =>
          obtain ⟨k, hk, rfl, HD, hb2⟩ := hrel
          by_cases hki : k < i
          · have hki' : (k : Int) < (i : Int) := by omega
            have hkn : (k : Int) < (n : Int) := by omega
            obtain ⟨y, hy⟩ : ∃ y, l[k]? = some y := ⟨_, List.getElem?_eq_getElem (by rw [HN.out]; omega)⟩
            have c1 := cid.out wr hb2 k y hy
            have c2 := cid.out wr hb2 i x HX.out
            obtain ⟨yi, hyi⟩ : ∃ yi, y.a.s.id = yi := ⟨_, rfl⟩
            obtain ⟨xi, hxi⟩ : ∃ xi, x.a.s.id = xi := ⟨_, rfl⟩
            rw [hyi] at c1
            rw [hxi] at c2
            have hds := dupTo_succ (x := x.a) (ads_get hy)
            rw [HD.out, Bool.false_or, hyi, hxi] at hds
            have HDS := Lib.hid hds
            clear hds hy hyi hxi HD
            by_cases he : yi = xi
            · have he' : ((yi : Int) == (xi : Int)) = true := by simp; omega
              have hre : r = ([], 2) := by
                have h2 : dupTo (ads l) x.a i = true := any_le (show k + 1 ≤ i by omega) (by have := HDS.out; rw [decide_eq_true he] at this; exact this)
                have h1 : edBadTo (ads l) n = true := any_le (show i + 1 ≤ n by omega) (by have := HBS2.out; rw [h2] at this; exact this)
                rw [HR.out, if_pos h1]
              subst hre
              go_wp2_with fail
              go_quiet (fail)
              go_wp2_with fail
              go_ret2
              exact EdsPost.no (below_drewN hb2 _)
            · have he' : ((yi : Int) == (xi : Int)) = false := by simp; omega
              go_wp2_with fail
              go_quiet (fail)
              go_wp2_with fail
              exact ⟨⟨k + 1, by omega, by go_num, Lib.hid (by rw [HDS.out, decide_eq_false he]), below_drewN hb2 _⟩, by simp only [intOf]; omega⟩
          · have hki' : decide ((k : Int) < (i : Int)) = false := by simp; omega
            obtain rfl : k = i := by omega
            go_wp2_with fail
            exact ⟨⟨k + 1, by omega, by go_num, Lib.hid (by rw [HBS2.out]; exact HD.out), hb2⟩, by simp only [intOf]; omega⟩
    · have hlt' : decide ((i : Int) < (n : Int)) = false := by simp; omega
      obtain rfl : i = n := by omega
      have HGOOD := Lib.hid (show edBadTo (ads l) i = false from HG.out)
      have HBO := Lib.hid hb
      clear HG hlt hlt' hi hb
      go_wp2_with fail
      go_loopw [8] (fun i_ wr2 => ∃ j : Nat, j ≤ i ∧ i_ = .int .i64 j ∧ Hid (spErr ((ads l).map (·.s)) = spErr (((ads l).map (·.s)).drop j)) ∧ Below w.heap.size w wr2) (fun i_ _ => i - (intOf i_).toNat)
      case atStart => exact ⟨0, by omega, rfl, Lib.hid rfl, HBO.out⟩
      case round =>
        obtain ⟨j, hj, rfl, HS, hb⟩ := hrel
        by_cases hlt : j < i
        · have hlt' : (j : Int) < (i : Int) := by omega
          obtain ⟨x, hx⟩ : ∃ x, l[j]? = some x := ⟨_, List.getElem?_eq_getElem (by rw [HN.out]; exact hlt)⟩
          obtain ⟨b, o, eA, hbb, hc, hok⟩ := (HH.out.below (hb.mono hB)).get hx
          subst eA
          have ls := loadK_aeSpD hc
          have hgx : ((ads l).map (·.s))[j]? = some x.a.s := by simp [ads_get hx]
          have hds := spErr_dropD hgx
          rw [← HS.out] at hds
          have cc := rSpCheck (c := x.c) x.a.s wr hok.rd hok.len (Nat.le_trans hB hb.size) hok.max
          obtain ⟨ck, hck⟩ : ∃ ck, spChk x.a.s = ck := ⟨_, rfl⟩
          rw [hck] at cc hds
          have HDS := Lib.hid hds
          clear hds hck hx hgx hok hc HS
          go_wp2_with fail
          refine cc.mono ?_
          rintro en w3 ⟨rfl, hb3⟩
          have hb4 := hb.trans (hb3.mono hb.size)
          by_cases h0 : ck = 0
          · subst h0
            go_wp2_with fail
            exact ⟨⟨j + 1, by omega, by go_num, Lib.hid (by rw [HDS.out]; simp), hb4⟩, by simp only [intOf]; omega⟩
          · have h0' : ((ck : Int) != 0) = true := by simp; omega
            have hre : r = ([], ck) := by rw [HR.out, HGOOD.out, if_neg (by simp), HDS.out, if_pos h0, if_pos h0]
            subst hre
            go_wp2_with fail
            go_ret2
            exact EdsPost.no hb4
        · have hlt' : decide ((j : Int) < (i : Int)) = false := by simp; omega
          have hz0 : spErr ((ads l).map (·.s)) = 0 := by rw [HS.out, List.drop_eq_nil_of_le (by rw [List.length_map, ads_len, HN.out]; omega)]; rfl
          have hre : r = ((List.range i).foldl (edRow size (ads l)) [], 0) := by rw [HR.out, HGOOD.out, if_neg (by simp), hz0, if_neg (by simp)]
          have HRE := Lib.hid hre
          clear hre hz0 HS HR HGOOD HBO
          go_wp2_with fail
          clear hlt hlt' hj
          go_loopw [10, 11] (fun out_ i_ wr3 => ∃ (q m c' : Nat) (A' : Option Addr) (out : List Ed), q ≤ i ∧ out_ = .slice A' m c' ∧ i_ = .int .i64 q ∧ m ≤ q * 200 ∧ Hid (out = (List.range q).foldl (edRow size (ads l)) [] ∧ out.length = m ∧ EdFew out) ∧ wr3.ownsRow w.heap.size 47 4 (.slice A' m c') m (eds out) ∧ Below w.heap.size w wr3) (fun _ i_ _ => i - (intOf i_).toNat)
          case atStart => exact ⟨0, 0, 0, none, [], by omega, rfl, rfl, by omega, Lib.hid ⟨rfl, rfl, fun y hy => by cases hy⟩, World.ownsRow_nil _ _ _ _, hb⟩
          case round =>
            obtain ⟨q, m, c', A', out, hq, rfl, rfl, hm, HO, hown, hbq⟩ := hrel
            by_cases hqi : q < i
            · have hqi' : (q : Int) < (i : Int) := by omega
              obtain ⟨x, hx⟩ : ∃ x, l[q]? = some x := ⟨_, List.getElem?_eq_getElem (by rw [HN.out]; exact hqi)⟩
              have HX := Lib.hid hx
              obtain ⟨b, o, eA, -, -, -⟩ := HH.out.get hx
              subst eA
              have HC : Hid (∀ W, Below w.heap.size w W → ∀ (k : Nat) (y : AE), l[k]? = some y → W.cell? ⟨b, o + k * 14 + 2, none⟩ = some (.int .u64 y.a.s.id) ∧ W.cell? ⟨b, o + k * 14 + 4, none⟩ = some (.string y.a.s.service) ∧ W.cell? ⟨b, o + k * 14 + 7, none⟩ = some (.int .i64 y.a.s.start) ∧ W.cell? ⟨b, o + k * 14 + 11, none⟩ = some (.int .u64 y.a.up)) := Lib.hid fun W hW k y hy => by
                obtain ⟨b', o', e', -, hc', -⟩ := (HH.out.below (hW.mono hB)).get hy
                cases e'
                rw [Nat.add_assoc, Nat.add_assoc, Nat.add_assoc, Nat.add_assoc]
                exact ⟨hc' 2 (by omega), hc' 4 (by omega), hc' 7 (by omega), hc' 11 (by omega)⟩
              clear hx
              go_wp2_with fail
              have HOWN := Lib.hid hown
              obtain ⟨wO, hwO⟩ : ∃ wO, wO = wr := ⟨_, rfl⟩
              subst hwO
              go_loopw [10, 12] (fun out_ k_ wr4 => ∃ (k m2 c2 : Nat) (A2 : Option Addr) (out2 : List Ed), k ≤ i ∧ out_ = .slice A2 m2 c2 ∧ k_ = .int .i64 k ∧ m2 ≤ q * 200 + k ∧ Hid (out2 = (List.range k).foldl (edAt size (ads l) x.a) out ∧ out2.length = m2 ∧ EdFew out2) ∧ wr4.ownsRow w.heap.size 47 4 (.slice A2 m2 c2) m2 (eds out2) ∧ Below w.heap.size w wr4) (fun _ k_ _ => i - (intOf k_).toNat)
              case atStart => exact ⟨0, m, c', A', out, by omega, rfl, rfl, by omega, Lib.hid ⟨rfl, HO.out.2.1, HO.out.2.2⟩, HOWN.out, hbq⟩
              case round =>
                obtain ⟨k, m2, c2, A2, out2, hk, rfl, rfl, hm2, HO2, hown2, hbk⟩ := hrel
                by_cases hki : k < i
                · have hki' : (k : Int) < (i : Int) := by omega
                  obtain ⟨y, hy⟩ : ∃ y, l[k]? = some y := ⟨_, List.getElem?_eq_getElem (by rw [HN.out]; exact hki)⟩
                  obtain ⟨-, cxs, cxt, cxu⟩ := HC.out wr hbk q x HX.out
                  obtain ⟨cyi, cys, -, -⟩ := HC.out wr hbk k y hy
                  have hstp : ∀ o2, o2 = edStep size x.a y.a out2 → o2 = (List.range (k + 1)).foldl (edAt size (ads l) x.a) out := fun o2 ho => by
                    rw [List.range_succ, List.foldl_append, ← HO2.out.1]
                    show o2 = edAt size (ads l) x.a out2 k
                    rw [edAt, ads_get hy]
                    exact ho
                  have HSTP := Lib.hid hstp
                  have HY := Lib.hid hy
                  have HOWN2 := Lib.hid hown2
                  clear hstp hy hown2
                  obtain ⟨up, hup⟩ : ∃ up, x.a.up = up := ⟨_, rfl⟩
                  obtain ⟨yi, hyi⟩ : ∃ yi, y.a.s.id = yi := ⟨_, rfl⟩
                  obtain ⟨xs, hxs⟩ : ∃ xs, x.a.s.service = xs := ⟨_, rfl⟩
                  obtain ⟨ys, hys⟩ : ∃ ys, y.a.s.service = ys := ⟨_, rfl⟩
                  rw [hup] at cxu
                  rw [hyi] at cyi
                  rw [hxs] at cxs
                  rw [hys] at cys
                  have hes : ∀ o2, o2 = (if up ≠ 0 ∧ yi = up ∧ ys ≠ xs then (addE ⟨(bktOf x.a.s.start size).1, ys, xs, 1⟩ out2).1 else out2) → o2 = (List.range (k + 1)).foldl (edAt size (ads l) x.a) out := fun o2 ho => HSTP.out o2 (by rw [edStep, hup, hyi, hxs, hys]; exact ho)
                  have HES := Lib.hid hes
                  have HXS := Lib.hid hxs
                  have HYS := Lib.hid hys
                  clear hes HSTP hup hyi hxs hys
                  by_cases h1 : up = 0
                  · have h1' : ((up : Int) != 0) = false := by simp; omega
                    go_wp2_with fail
                    go_quiet (fail)
                    go_wp2_with fail
                    have hbz := below_drewN (Below.refl wr.heap.size wr) nq
                    exact ⟨⟨k + 1, m2, c2, A2, out2, by omega, rfl, by go_num, by omega, Lib.hid ⟨HES.out _ (by rw [if_neg (fun h => h.1 h1)]), HO2.out.2.1, HO2.out.2.2⟩, ((App.refl HOWN2.out).later hbz).own, hbk.trans (hbz.mono hbk.size)⟩, by simp only [intOf]; omega⟩
                  have h1' : ((up : Int) != 0) = true := by simp; omega
                  by_cases h2 : yi = up
                  · have h2' : ((yi : Int) == (up : Int)) = true := by simp; omega
                    by_cases h3 : ys = xs
                    · subst h3
                      go_wp2_with fail
                      go_quiet (fail)
                      go_wp2_with fail
                      have hbz := below_drewN (Below.refl wr.heap.size wr) nq
                      exact ⟨⟨k + 1, m2, c2, A2, out2, by omega, rfl, by go_num, by omega, Lib.hid ⟨HES.out _ (by rw [if_neg (fun h => h.2.2 rfl)]), HO2.out.2.1, HO2.out.2.2⟩, ((App.refl HOWN2.out).later hbz).own, hbk.trans (hbz.mono hbk.size)⟩, by simp only [intOf]; omega⟩
                    · have h3' : (ys.toList == xs.toList) = false := by rw [strEq_of', decide_eq_false h3]
                      have h3'' : (ys.toList != xs.toList) = true := by rw [bne, h3']; rfl
                      go_wp2_with fail
                      go_quiet (fail)
                      have hbz := below_drewN (Below.refl wr.heap.size wr) nq
                      have hb0 := hbk.trans (hbz.mono hbk.size)
                      obtain ⟨W0, hW0⟩ : ∃ W0, wr.drewN nq = W0 := ⟨_, rfl⟩
                      rw [hW0] at hbz hb0 ⊢
                      clear hW0 cxs cxt cxu cyi cys
                      have cxt := (HC.out W0 hb0 q x HX.out).2.2.1
                      have hstx := HST.out x (List.mem_of_getElem? HX.out)
                      have cb := rDeBucket x.a.s.start size W0 hstx.2 hstx.1 hs0 hs1
                      obtain ⟨bn, hbn⟩ : ∃ bn, (bktOf x.a.s.start size).1 = bn := ⟨_, rfl⟩
                      have hes2 := fun o2 ho => HES.out o2 ho
                      rw [hbn] at cb hes2
                      have HES2 := Lib.hid (hes2 _ rfl)
                      have own0 := ((App.refl HOWN2.out).later hbz).own
                      have hb01 := below_drewN (Below.refl W0.heap.size W0) 1
                      have own1 := ((App.refl own0).later hb01).own
                      have hfew := HO2.out.2.2
                      have cadd := rDeAdd (base := w.heap.size) out2 ⟨bn, ys, xs, 1⟩ W0.drew own1 HO2.out.2.1 (by omega) (by have := hb0.size; exact this) (by show (1 : Nat) < _; omega) (fun z hz => by have := hfew z hz; omega)
                      have haf := addE_few (x := ⟨bn, ys, xs, 1⟩) (by show (1 : Nat) ≤ _; omega) hfew
                      obtain ⟨R2, hR2⟩ : ∃ R2, addE ⟨bn, ys, xs, 1⟩ out2 = R2 := ⟨_, rfl⟩
                      rw [hR2] at cadd haf HES2
                      rw [if_pos ⟨h1, h2, h3⟩] at HES2
                      have HADD := Lib.hid cadd
                      have HAF := Lib.hid haf
                      have HOL := Lib.hid HO2.out.2.1
                      have hcd := HC.out W0.drew (hb0.trans (hb01.mono hb0.size))
                      have cxs : W0.drew.cell? ⟨b, o + q * 14 + 4, none⟩ = some (.string xs) := by rw [(hcd q x HX.out).2.1, HXS.out]
                      have cys : W0.drew.cell? ⟨b, o + k * 14 + 4, none⟩ = some (.string ys) := by rw [(hcd k y HY.out).2.1, HYS.out]
                      clear cadd haf hR2 hbn hes2 hcd hfew own0 own1
                      go_wp2_with fail
                      refine cb.mono ?_
                      rintro en w5 ⟨rfl, hw5⟩
                      rw [hw5]
                      clear hw5 cxt cb
                      go_wp2_with fail
                      go_region_held3 (fun w' => w'.cell? ⟨b, o + q * 14 + 4, none⟩ = some (.string xs) ∧ w'.cell? ⟨b, o + k * 14 + 4, none⟩ = some (.string ys))
                        (first | exact ⟨cxs, cys⟩ | exact ⟨cxs6, cys6⟩)
                        (first
                          | (go_at_call 38
                             refine HADD.out.mono ?_
                             rintro en w6 ⟨A6, c6, n6, rfl, hn6, own6, hb6⟩
                             have hb06 := (hb0.trans (hb01.mono hb0.size)).trans hb6
                             have hcd6 := HC.out w6 hb06
                             have cxs6 : w6.cell? ⟨b, o + q * 14 + 4, none⟩ = some (.string xs) := by rw [(hcd6 q x HX.out).2.1, HXS.out]
                             have cys6 : w6.cell? ⟨b, o + k * 14 + 4, none⟩ = some (.string ys) := by rw [(hcd6 k y HY.out).2.1, HYS.out])
                          | fail)
                      go_wp2_with fail
                      exact ⟨⟨k + 1, n6, c6, A6, R2.1, by omega, rfl, by go_num, by have h1 := HAF.out.2; have h2 := HOL.out; omega, Lib.hid ⟨HES2.out, hn6, HAF.out.1⟩, own6, hb06⟩, by simp only [intOf]; omega⟩
                  · have h2' : ((yi : Int) == (up : Int)) = false := by simp; omega
                    go_wp2_with fail
                    go_quiet (fail)
                    go_wp2_with fail
                    have hbz := below_drewN (Below.refl wr.heap.size wr) nq
                    exact ⟨⟨k + 1, m2, c2, A2, out2, by omega, rfl, by go_num, by omega, Lib.hid ⟨HES.out _ (by rw [if_neg (fun h => h2 h.2.1)]), HO2.out.2.1, HO2.out.2.2⟩, ((App.refl HOWN2.out).later hbz).own, hbk.trans (hbz.mono hbk.size)⟩, by simp only [intOf]; omega⟩
                · have hki' : decide ((k : Int) < (i : Int)) = false := by simp; omega
                  obtain rfl : k = i := by omega
                  go_wp2_with fail
                  exact ⟨⟨q + 1, m2, c2, A2, out2, by omega, rfl, by go_num, by omega, Lib.hid ⟨by rw [List.range_succ, List.foldl_append, ← HO.out.1]; show out2 = edRow size (ads l) out q; rw [edRow, ads_get HX.out, ads_len, HN.out]; exact HO2.out.1, HO2.out.2.1, HO2.out.2.2⟩, hown2, hbk⟩, by simp only [intOf]; omega⟩
            · have hqi' : decide ((q : Int) < (i : Int)) = false := by simp; omega
              obtain rfl : q = i := by omega
              go_wp2_with fail
              go_ret2
              have hre := HRE.out
              rw [← HO.out.1] at hre
              subst hre
              exact ⟨A', c', by show _ = Ending.returned (.tuple #[.slice A' out.length c', .int .i64 0]); rw [HO.out.2.1]; rfl, by show wr.ownsRow _ _ _ (.slice A' out.length c') out.length _; rw [HO.out.2.1]; exact hown, hbq⟩
end Go.Proofs.Ythaiplhjekkooaa

/- deps: add. -/
namespace Go.Proofs.Ythaiplhjekkooaa
open Go.RowKit Go.MapKept
theorem loadEk_shutG (a : Addr) : loadVar 71 a = loadK 71 a := rfl
attribute [local go_sem ↓] loadEk_shutG
set_option maxRecDepth 100000 in
theorem loadK_ekB {w : World} {g : Nat} {e : Ek} (h : Bk w g 71 (ekA e)) : (loadK 71 ⟨g, 0, none⟩).run Try.prog w = .ok (ekV e) w :=
  run_loadVar_row w g _ _ (ekA e) (0, 0) _ h Try.underlying71 rfl (by rfl)
abbrev uvV (n : Nat) : Value := .int .u64 n
/-- A number more. -/
def addK (k : Ek) (n : Nat) (L : List (Ek × Nat)) : List (Ek × Nat) := mgPut k (min ((mgGet k L).getD 0) 4611686018427387905 + min n 4611686018427387905) L
theorem min_int (a b : Nat) : (if (b : Int) < (a : Int) then (b : Int) else (a : Int)) = ((min a b : Nat) : Int) := by
  split <;> omega
theorem min_intK (a : Nat) : (if (4611686018427387905 : Int) < (a : Int) then (4611686018427387905 : Int) else (a : Int)) = ((min a 4611686018427387905 : Nat) : Int) := by
  split <;> omega
set_option maxRecDepth 100000 in
set_option maxHeartbeats 2000000 in
theorem deAdd {b : Nat} {L : List (Ek × Nat)} (k : Ek) (n : Nat) (w : World) (h : Mg ekV uvV w b L) :
    Calls Try.prog 35 #[.map (some b), ekV k, .int .u64 n] w fun e w' => e = .returned (.tuple #[]) ∧ Mg ekV uvV w' b (addK k n L) ∧ w.grownBy w' (some b) ∧ w.heap.size ≤ w'.heap.size := by
  have hg0 := World.grownBy_alloc w (.cells (ekA k) 71) (some b)
  have hs0 : w.heap.size ≤ (w.alloc (.cells (ekA k) 71)).heap.size := by simp
  have m1 := h.alloc (.cells (ekA k) 71)
  have bk1 := Bk.new w 71 (ekA k)
  obtain ⟨w1, hw1⟩ : ∃ w1, w.alloc (.cells (ekA k) 71) = w1 := ⟨_, rfl⟩
  obtain ⟨g, hg⟩ : ∃ g, w.heap.size = g := ⟨_, rfl⟩
  rw [hw1] at hg0 hs0 m1 bk1
  rw [hg] at bk1
  have hld := loadK_ekB (w := w1.drew) bk1
  have hlk := run_mgLook (z := .int .u64 0) (e := 29) ekRun Try.underlying67 (by simp [Try.zeroValue29]) m1.drew k false
  have hgv : ((mgGet k L).map uvV).getD (.int .u64 0) = .int .u64 ((mgGet k L).getD 0 : Nat) := by
    cases mgGet k L <;> rfl
  simp only [Bool.false_eq_true, if_false, hgv] at hlk
  obtain ⟨R, hR⟩ : ∃ R, addK k n L = R := ⟨_, rfl⟩
  rw [hR]
  rw [addK] at hR
  obtain ⟨old, hold⟩ : ∃ old, (mgGet k L).getD 0 = old := ⟨_, rfl⟩
  rw [hold] at hlk hR
  have e1 := min_intK old
  have e2 := min_intK n
  obtain ⟨p, hp⟩ : ∃ p, min old 4611686018427387905 = p := ⟨_, rfl⟩
  obtain ⟨q, hq⟩ : ∃ q, min n 4611686018427387905 = q := ⟨_, rfl⟩
  rw [hp] at e1 hR
  rw [hq] at e2 hR
  have hwr : IntKind.u64.wrap ((p : Int) + (q : Int)) = ((p + q : Nat) : Int) := by
    rw [show (p : Int) + (q : Int) = ((p + q : Nat) : Int) from by omega]
    exact IntWalk.u64_in _ ⟨by omega, by omega⟩
  have HW := Lib.hid hw1
  have HG := Lib.hid hg
  have HR := Lib.hid hR
  have HM := Lib.hid m1
  have HG0 := Lib.hid hg0
  have HS0 := Lib.hid hs0
  clear hw1 hg hR m1 hp hq hold hg0 hs0 h hgv bk1
  go_enter Try.func35, Try.ntmps35
  go_wp2_with fail
  rw [HW.out, HG.out]
  go_still_tail 9, (by kernel_rfl)
  change wpList _ _ _ _ _ w1.drew
  go_wp2_with (first
    | (refine wpList_mgPut _ rfl (.tmp 6) (.tmp 7) (.tmp 14) 67 rfl ekRun Try.underlying67 b L rfl HM.out.drew k (p + q) rfl rfl ?_
       rintro w3 hm3 hg3 hs3)
    | fail)
  go_end0
  refine ⟨rfl, by rw [← HR.out]; exact hm3, ?_, ?_⟩
  · exact HG0.out.trans ⟨hg3.os, hg3.tape, hg3.output, hg3.size, hg3.block⟩
  · have := HS0.out
    rw [hs3]
    exact this
end Go.Proofs.Ythaiplhjekkooaa

/-
  DERIVED: THE SHELF's CONTRACTS AT THIS DUMP, IN PLAIN WORDS (tools/lay-plain.mjs out of 'TrySort.lean', which tools/lay-shelf.mjs wrote): THE SAME DECLARATIONS UNDER THE SAME NAMES: 'import', 'namespace', 'open', 'def', 'theorem' AND NOTHING ELSE: no command of the shelf's: FOR A HAND-IN. Each laying: the table of numbers ('.._ren') and one theorem, a field a fact of the dump's own or the kernel's comparison; each contract: ONE APPLICATION.
-/
namespace Go.Proofs
open Go.Shelf
def Try.sortEd_ren : Go.Shelf.Ren := ⟨fun | 6 => 52 | 15 => 66 | 14 => 65 | 28 => 82 | 29 => 83 | 20 => 74 | 21 => 75 | 22 => 76 | 23 => 77 | 24 => 78 | 25 => 79 | 26 => 80 | 27 => 81 | 46 => 98 | 47 => 99 | 48 => 100 | 49 => 101 | 50 => 102 | 57 => 106 | n => n, fun | 22 => 25 | 24 => 47 | 25 => 79 | 3 => 3 | 39 => 105 | 0 => 0 | 53 => 121 | 55 => 29 | 4 => 4 | 46 => 114 | 45 => 113 | 50 => 118 | 5 => 5 | 9 => 9 | 66 => 132 | 70 => 136 | 76 => 140 | 77 => 141 | n => n, fun | n => n⟩
theorem Try.sortEd : Go.Proofs.SlLaysF0.n6 Try.prog Try.sortEd_ren := {
  mixed := by kernel_rfl
  f6 := ⟨Try.f52.name, by decide, Try.func52.trans (congrArg some (by kernel_rfl))⟩
  f14 := ⟨Try.f65.name, by decide, Try.func65.trans (congrArg some (by kernel_rfl))⟩
  f15 := Try.func66.trans (congrArg some (by kernel_rfl))
  f20 := ⟨Try.f74.name, by decide, Try.func74.trans (congrArg some (by kernel_rfl))⟩
  f21 := ⟨Try.f75.name, by decide, Try.func75.trans (congrArg some (by kernel_rfl))⟩
  f22 := ⟨Try.f76.name, by decide, Try.func76.trans (congrArg some (by kernel_rfl))⟩
  f23 := ⟨Try.f77.name, by decide, Try.func77.trans (congrArg some (by kernel_rfl))⟩
  f24 := ⟨Try.f78.name, by decide, Try.func78.trans (congrArg some (by kernel_rfl))⟩
  f25 := ⟨Try.f79.name, by decide, Try.func79.trans (congrArg some (by kernel_rfl))⟩
  f26 := ⟨Try.f80.name, by decide, Try.func80.trans (congrArg some (by kernel_rfl))⟩
  f27 := ⟨Try.f81.name, by decide, Try.func81.trans (congrArg some (by kernel_rfl))⟩
  f28 := Try.func82.trans (congrArg some (by kernel_rfl))
  f29 := Try.func83.trans (congrArg some (by kernel_rfl))
  f46 := ⟨Try.f98.name, by decide, Try.func98.trans (congrArg some (by kernel_rfl))⟩
  f47 := Try.func99.trans (congrArg some (by kernel_rfl))
  f48 := Try.func100.trans (congrArg some (by kernel_rfl))
  f49 := ⟨Try.f101.name, by decide, Try.func101.trans (congrArg some (by kernel_rfl))⟩
  f50 := ⟨Try.f102.name, by decide, Try.func102.trans (congrArg some (by kernel_rfl))⟩
  f57 := ⟨Try.f106.name, by decide, Try.func106.trans (congrArg some (by kernel_rfl))⟩
  t0 := Try.underlying0
  a0 := Try.isAgg0
  z0 := Try.sizeOf0
  v0 := Try.zeroValue0
  t3 := Try.underlying3
  a3 := Try.isAgg3
  z3 := Try.sizeOf3
  v3 := Try.zeroValue3
  t4 := Try.underlying4
  a4 := Try.isAgg4
  z4 := Try.sizeOf4
  v4 := Try.zeroValue4
  t5 := Try.underlying5
  a5 := Try.isAgg5
  z5 := Try.sizeOf5
  v5 := Try.zeroValue5
  t9 := Try.underlying9
  a9 := Try.isAgg9
  z9 := Try.sizeOf9
  v9 := Try.zeroValue9
  t22 := Try.underlying25
  a22 := Try.isAgg25
  z22 := Try.sizeOf25
  v22 := Try.zeroValue25
  t25 := Try.underlying79
  a25 := Try.isAgg79
  z25 := Try.sizeOf79
  v25 := Try.zeroValue79
  t39 := Try.underlying105
  a39 := Try.isAgg105
  z39 := Try.sizeOf105
  v39 := Try.zeroValue105
  t45 := Try.underlying113
  a45 := Try.isAgg113
  z45 := Try.sizeOf113
  v45 := Try.zeroValue113
  t46 := Try.underlying114
  a46 := Try.isAgg114
  z46 := Try.sizeOf114
  v46 := Try.zeroValue114
  t50 := Try.underlying118
  a50 := Try.isAgg118
  z50 := Try.sizeOf118
  v50 := Try.zeroValue118
  t53 := Try.underlying121
  a53 := Try.isAgg121
  z53 := Try.sizeOf121
  v53 := Try.zeroValue121
  t55 := Try.underlying29
  a55 := Try.isAgg29
  z55 := Try.sizeOf29
  v55 := Try.zeroValue29
  t66 := Try.underlying132
  a66 := Try.isAgg132
  z66 := Try.sizeOf132
  v66 := Try.zeroValue132
  t70 := Try.underlying136
  a70 := Try.isAgg136
  z70 := Try.sizeOf136
  v70 := Try.zeroValue136
  t76 := Try.underlying140
  a76 := Try.isAgg140
  z76 := Try.sizeOf140
  v76 := Try.zeroValue140
  t77 := Try.underlying141
  a77 := Try.isAgg141
  z77 := Try.sizeOf141
  v77 := Try.zeroValue141 }
end Go.Proofs

/- Draws and new blocks, nothing else; what a sort wants of lists of structs, whatever they are. -/
namespace Go.Proofs.Ythaiplhjekkooaa
open Go.RowKit Go.Shelf Go.Sort

/-- Draws and new blocks, nothing else. -/
structure Gr (w w' : World) : Prop where
  b : Below w.heap.size w w'
  d : w.drawn ≤ w'.drawn
theorem Gr.refl (w : World) : Gr w w := ⟨Below.refl _ _, Nat.le_refl _⟩
theorem Gr.trans {a b c : World} (h : Gr a b) (k : Gr b c) : Gr a c := ⟨h.b.trans (k.b.mono h.b.size), Nat.le_trans h.d k.d⟩
theorem Gr.alloc {a b : World} (h : Gr a b) (o : Obj) : Gr a (b.alloc o) := ⟨h.b.alloc h.b.size o, h.d⟩
theorem Gr.grow {w w' : World} (h : Gr w w') : ∃ q os, w' = Go.Sort.grow (w.drewN q) os := by
  obtain ⟨h1, h2⟩ := h
  obtain ⟨hp, tp, dr, os, out⟩ := w
  obtain ⟨hp', tp', dr', os', out'⟩ := w'
  obtain ⟨e1, e2, e3, e4, e5⟩ := h1
  simp only at e1 e2 e3 e4 e5 h2
  subst e1 e2 e3
  refine ⟨dr' - dr, hp'.extract hp.size hp'.size, ?_⟩
  have hd : dr + (dr' - dr) = dr' := by omega
  have hh : hp ++ hp'.extract hp.size hp'.size = hp' := by
    apply Array.ext_getElem?
    intro i
    by_cases hi : i < hp.size
    · rw [Array.getElem?_append_left hi, e5 i hi]
    · rw [Array.getElem?_append_right (by omega), Array.getElem?_extract]
      by_cases hi2 : i < hp'.size
      · rw [if_pos (by omega), show hp.size + (i - hp.size) = i from by omega]
      · rw [if_neg (by omega), Array.getElem?_eq_none (by omega)]
  simp only [Go.Sort.grow, World.drewN, hd, hh]
theorem Cmp.le {α : Type} {f : α → α → Int} (F : Cmp f) {a b c : α} (h1 : f a b ≤ 0) (h2 : f b c ≤ 0) : f a c ≤ 0 := by
  by_cases e1 : f a b = 0
  · rw [(F.eq a b).1 e1]
    exact h2
  · by_cases e2 : f b c = 0
    · rw [← (F.eq b c).1 e2]
      exact h1
    · have r1 := F.rng a b
      have r2 := F.rng b c
      have := F.tr a b c (by omega) (by omega)
      omega
theorem Cmp.anti {α : Type} {f : α → α → Int} (F : Cmp f) {a b : α} (h1 : f a b ≤ 0) (h2 : f b a ≤ 0) : a = b :=
  (F.eq a b).1 (by have := F.neg a b; omega)
theorem grown_sort {α : Type} [Inhabited α] (enc : α → List Value) (k : Nat) (w : World) (g m : Nat) (dk : Array α) (os : Array Obj) : w.grownBy (sortWorldK enc k w g 0 m dk os) (some g) := by
  refine ⟨rfl, rfl, rfl, size_sortWorldK_c enc k w g 0 m dk os, fun i hi hne => ?_⟩
  have hg : g ≠ i := fun e => hne (by rw [e])
  have hs : i < (putRowK enc k (Sort.ahead w m) g 0 dk).heap.size := by rw [size_putRowK]; exact hi
  show (grow (putRowK enc k (Sort.ahead w m) g 0 dk) os).heap[i]? = _
  rw [grow, Array.getElem?_append_left hs]
  show ((w.heap).modify g _)[i]? = _
  rw [Array.getElem?_modify, if_neg hg]
theorem heap_sortK {α : Type} [Inhabited α] {enc : α → List Value} {k : Nat} {w : World} {g n : Nat} {os : Array Obj} {cur : Array Value} {e : TypeId} {fr : Nat × Nat} (d : Array α) (hb : w.heap[g]? = some (.cells cur e fr)) :
    (sortWorldK enc k w g 0 n d os).heap[g]? = some (.cells (putCells id 0 (flatK enc k d) cur) e fr) := by
  have hg : g < w.heap.size := (Array.getElem?_eq_some_iff.1 hb).1
  unfold sortWorldK putRowK
  rw [heap_grow_old _ _ (by simpa using hg)]
  simp [putRow, mapBlock, Sort.ahead, Array.getElem?_modify, hb, onCells]
theorem take_putCellsK (cur F : Array Value) (h : F.size ≤ cur.size) : (putCells id 0 F cur).toList.take F.size = F.toList := by
  apply List.ext_getElem?
  intro j
  by_cases hj : j < F.size
  · rw [List.getElem?_take_of_lt hj, Array.getElem?_toList]
    simp [putCells, hj, show j < cur.size by omega]
  · rw [List.getElem?_take_eq_none (by omega), List.getElem?_eq_none (by simp; omega)]
end Go.Proofs.Ythaiplhjekkooaa

/- slices.SortFunc of edges. -/
namespace Go.Proofs.Ythaiplhjekkooaa
open Go.RowKit Go.Shelf Go.Sort

theorem swo_ed : SWO (ltOf fun x y : Ed => ekCmp (edK x) (edK y)) where
  irrefl x := by
    have := (ekCmp_cmp.eq (edK x) (edK x)).2 rfl
    simp [ltOf, this]
  trans x y z h1 h2 := by
    simp only [ltOf, decide_eq_true_eq] at *
    have r1 := ekCmp_cmp.rng (edK x) (edK y)
    have r2 := ekCmp_cmp.rng (edK y) (edK z)
    have := ekCmp_cmp.tr (edK x) (edK y) (edK z) (by omega) (by omega)
    omega
  ntrans x y z h1 h2 := by
    simp only [ltOf, decide_eq_false_iff_not] at *
    have n1 := ekCmp_cmp.neg (edK x) (edK y)
    have n2 := ekCmp_cmp.neg (edK y) (edK z)
    have n3 := ekCmp_cmp.neg (edK x) (edK z)
    have := ekCmp_cmp.le (a := edK z) (b := edK y) (c := edK x) (by omega) (by omega)
    omega
theorem flat_eds [Inhabited Ed] (d : Array Ed) : (flatK edC 4 d).toList = eds d.toList := by
  apply List.ext_getElem?
  intro j
  by_cases hj : j < d.size * 4
  · have hj1 : j < (flatK edC 4 d).size := by rw [size_flatK]; exact hj
    have hq : j / 4 < d.size := by omega
    have hm : j % 4 < 4 := Nat.mod_lt _ (by omega)
    have h1 := flatR_get (f := edC) edC_length (l := d.toList) (i := j / 4) (x := d[j / 4]) (by simp [hq]) (j % 4) hm
    rw [show j / 4 * 4 + j % 4 = j from by omega] at h1
    rw [h1, Array.getElem?_toList, Array.getElem?_eq_getElem hj1]
    have h2 := get_flatK edC 4 d j hj
    rw [getElem!_pos _ j hj1, getElem!_pos d (j / 4) hq] at h2
    rw [h2, List.getElem!_eq_getElem?_getD, List.getElem?_eq_getElem (by rw [edC_length]; exact hm)]
    rfl
  · rw [List.getElem?_eq_none (by rw [Array.length_toList, size_flatK]; omega), List.getElem?_eq_none (by rw [eds_length]; simp; omega)]
theorem sizeOf_ed (w : World) : (Go.sizeOf 47).run Try.prog w = .ok 4 w := by
  have h : (Try.prog.info? 47).map (·.size) = some 4 := by kernel_rfl
  cases hq : Try.prog.info? 47 with
  | none => simp [hq] at h
  | some i =>
    have hs : i.size = 4 := by simpa [hq] using h
    simp [sizeOf, typeInfo, Sem.run_bind, hq, hs]
theorem isAgg_ed (w : World) : (isAgg 47).run Try.prog w = .ok true w := by
  unfold isAgg
  rw [Sem.run_bind, run_underlying Try.underlying47 w]
  rfl
/-- slices.SortFunc of edges by compare. -/
def SortEdPost (w : World) (base : Nat) (v : Value) (n : Nat) (l : List Ed) (e : Ending) (w' : World) : Prop :=
  e = .returned (.tuple #[]) ∧ ∃ l', l'.Perm l ∧ SortEd l' ∧ w'.ownsRow base 47 4 v n (eds l') ∧ w.grownBy w' v.ownBlock
set_option maxRecDepth 100000 in
theorem sortEds {base n cap : Nat} {A : Option Addr} {l : List Ed} (w : World) (h : w.ownsRow base 47 4 (.slice A n cap) n (eds l)) (hl : l.length = n) (hn : n < 4611686018427387904) :
    Calls Try.prog 52 #[.slice A n cap, .func (.func 42) #[] #[]] w (SortEdPost w base (.slice A n cap) n l) := by
  rcases h.2 with ⟨h1, h2⟩ | ⟨g, cap', cur, hv, hbase, hb, hnc, hcm, hcs, htk⟩
  · injection h1 with e1 _ e3
    subst e1 e3 h2
    refine (AnyF.slices_SortFunc_none Try.sortEd none 0 _ w).mono ?_
    rintro e w' ⟨rfl, rfl⟩
    have hl : l = [] := List.eq_nil_of_length_eq_zero hl
    subst hl
    exact ⟨rfl, [], List.Perm.refl _, List.Pairwise.nil, h, World.grownBy.refl _ _⟩
  · injection hv with e1 _ e3
    subst e1 e3
    have hgw : g < w.heap.size := (Array.getElem?_eq_some_iff.1 hb).1
    letI : Inhabited Ed := ⟨⟨0, .empty, .empty, 0⟩⟩
    obtain ⟨d, hd⟩ : ∃ d : Array Ed, d.toList = l := ⟨l.toArray, by simp⟩
    have hds : d.size = n := by
      have := congrArg List.length hd
      simpa [hl] using this
    have hfl := flat_eds d
    rw [hd] at hfl
    have hH : HoldsK edC 4 w g 0 d := by
      intro j hj
      have hj1 : (eds l)[j]? = some ((flatK edC 4 d)[j]!) := by
        rw [← hfl, Array.getElem?_toList, Array.getElem?_eq_getElem hj, getElem!_pos _ j hj]
      have h1 := h.cells (g := g) rfl j _ hj1
      rw [Addr.add_lit] at h1
      exact ⟨h1, by simp [World.frozen?, hb]⟩
    have hcmp : CmpLays Try.prog 42 #[] edC 4 (fun x y : Ed => ekCmp (edK x) (edK y)) g 0 d.size w := by
      intro m os dk hs x y
      refine Calls.mono (deCompare x y _) ?_
      rintro e w' ⟨he, hG1, hG2⟩
      exact ⟨he, Gr.grow ⟨hG1, hG2⟩⟩
    have hrun := AnyQ.slices_SortFunc Try.sortEd 4 isAgg_ed sizeOf_ed edC edC_length (fun x => by
      have := edC_one x
      exact fun v hv => this v hv) (fun x y : Ed => ekCmp (edK x) (edK y)) swo_ed 42 #[] g 0 cap d w (fun _ _ => rfl) hcmp hH hgw (by omega)
    rw [hds] at hrun
    refine Calls.mono hrun ?_
    rintro e w' ⟨rfl, d', q, os, hp, hst, rfl⟩
    have hgr := grown_sort edC 4 w g q d' os
    have hs' : d'.size = n := hp.1.trans hds
    have hperm : (d'.toList).Perm d.toList := by
      have := hp.2.2
      rw [show d'.extract 0 n = d' by rw [← hs']; simp, show d.extract 0 n = d by rw [← hds]; simp] at this
      exact this
    have hfl' := flat_eds d'
    refine ⟨rfl, d'.toList, by rw [← hd]; exact hperm, ?_, ?_, hgr⟩
    · rw [SortEd, List.pairwise_iff_getElem]
      intro i j hi hj hij
      simp only [Array.length_toList] at hi hj
      have h1 := hst i j (Nat.zero_le _) hij (by omega)
      rw [getElem!_pos d' i hi, getElem!_pos d' j hj] at h1
      simp only [ltOf, decide_eq_false_iff_not] at h1
      simp only [Array.getElem_toList]
      have h2 := ekCmp_cmp.neg (edK d'[i]) (edK d'[j])
      omega
    · refine ⟨by rw [eds_length]; simp [hs'], .inr ⟨g, cap, _, rfl, hbase, heap_sortK d' hb, hnc, hcm, by simp [putCells, hcs], ?_⟩⟩
      rw [← hfl', show n * 4 = (flatK edC 4 d').size by rw [size_flatK, hs']]
      exact take_putCellsK cur _ (by rw [size_flatK, hs', hcs]; exact Nat.mul_le_mul_right 4 hnc)
end Go.Proofs.Ythaiplhjekkooaa

/- Edges, plain: the document's add and a map say the same. -/
namespace Go.Proofs.Ythaiplhjekkooaa
open Go.RowKit

def mkEd (p : Ek × Nat) : Ed := ⟨p.1.b, p.1.f, p.1.t, p.2⟩
theorem edK_mk (p : Ek × Nat) : edK (mkEd p) = p.1 := rfl
theorem mk_inj {p q : Ek × Nat} (h : mkEd p = mkEd q) : p = q := by
  obtain ⟨⟨b, f, t⟩, n⟩ := p
  obtain ⟨⟨b', f', t'⟩, n'⟩ := q
  simp [mkEd] at h
  obtain ⟨h1, h2, h3, h4⟩ := h
  subst h1 h2 h3 h4
  rfl
theorem mk_un (e : Ed) : mkEd (edK e, e.n) = e := rfl
def StrEd (l : List Ed) : Prop := l.Pairwise fun a b => edLt a b = true
theorem edLt_key {a b c d : Ed} (h1 : edK a = edK c) (h2 : edK b = edK d) : edLt a b = edLt c d := by
  rw [Bool.eq_iff_iff, edLt_cmp, edLt_cmp, h1, h2]
theorem edLt_irr (a : Ed) : edLt a a = false := by
  rw [Bool.eq_false_iff]
  intro h
  rw [edLt_cmp, (ekCmp_cmp.eq _ _).2 rfl] at h
  cases h
theorem edLt_tr {a b c : Ed} (h1 : edLt a b = true) (h2 : edLt b c = true) : edLt a c = true := by
  rw [edLt_cmp] at *
  exact ekCmp_cmp.tr _ _ _ h1 h2
theorem edLt_ne {a b : Ed} (h : edLt a b = true) : edK a ≠ edK b := fun e => by
  rw [edLt_cmp, (ekCmp_cmp.eq _ _).2 e] at h
  cases h
theorem edLt_tri {a b : Ed} (h1 : edLt a b = false) (h2 : edLt b a = false) : edK a = edK b := by
  rw [Bool.eq_false_iff] at h1 h2
  have n1 : ekCmp (edK a) (edK b) ≠ -1 := fun h => h1 ((edLt_cmp _ _).2 h)
  have n2 : ekCmp (edK b) (edK a) ≠ -1 := fun h => h2 ((edLt_cmp _ _).2 h)
  have r := ekCmp_cmp.rng (edK a) (edK b)
  have n := ekCmp_cmp.neg (edK a) (edK b)
  exact (ekCmp_cmp.eq _ _).1 (by omega)
/-- The number at a key. -/
def edNum (l : List Ed) (k : Ek) : Nat := ((l.find? fun e => decide (edK e = k)).map (·.n)).getD 0
theorem edNum_cons (a : Ed) (l : List Ed) (k : Ek) : edNum (a :: l) k = if edK a = k then a.n else edNum l k := by
  unfold edNum
  rw [List.find?_cons]
  by_cases h : edK a = k
  · rw [decide_eq_true h, if_pos h]; rfl
  · rw [decide_eq_false h, if_neg h]
theorem edNum_none {l : List Ed} {k : Ek} (h : ∀ e ∈ l, edK e ≠ k) : edNum l k = 0 := by
  induction l with
  | nil => rfl
  | cons a l ih =>
    rw [edNum_cons, if_neg (h a (List.mem_cons_self ..))]
    exact ih fun e he => h e (List.mem_cons_of_mem _ he)
theorem edNum_mem {l : List Ed} {e : Ed} (hs : StrEd l) (h : e ∈ l) : edNum l (edK e) = e.n := by
  induction l with
  | nil => cases h
  | cons a l ih =>
    obtain ⟨h1, h2⟩ := List.pairwise_cons.1 hs
    rw [edNum_cons]
    rcases List.mem_cons.1 h with rfl | h
    · rw [if_pos rfl]
    · rw [if_neg (edLt_ne (h1 e h))]
      exact ih h2 h
theorem addE_cons (x a : Ed) (l : List Ed) : addE x (a :: l) = if edLt a x = true then (a :: (addE x l).1, (addE x l).2) else
    if edLt x a = true then (x :: a :: l, decide (x.n ≤ 4611686018427387904)) else if 4611686018427387904 < x.n ∨ 4611686018427387904 - x.n < a.n then (a :: l, false) else (⟨a.b, a.f, a.t, a.n + x.n⟩ :: l, true) := by
  by_cases h : edLt a x = true
  · rw [if_pos h]
    unfold addE
    rw [addPos, if_pos h]
    simp only [List.getElem?_cons_succ, List.take_succ_cons, List.drop_succ_cons, List.set_cons_succ]
    cases l[addPos x l]? with
    | none => rfl
    | some y =>
      simp only []
      by_cases h1 : edLt x y = true
      · rw [if_pos h1, if_pos h1]; rfl
      · rw [if_neg h1, if_neg h1]
        by_cases h2 : 4611686018427387904 < x.n ∨ 4611686018427387904 - x.n < y.n
        · rw [if_pos h2, if_pos h2]
        · rw [if_neg h2, if_neg h2]
  · rw [if_neg h]
    unfold addE
    rw [addPos, if_neg h]
    rfl
theorem addE_flag {x : Ed} : ∀ {l : List Ed}, StrEd l → (addE x l).2 = decide (edNum l (edK x) + x.n ≤ 4611686018427387904)
  | [], _ => by
    show decide (x.n ≤ _) = decide (0 + x.n ≤ _)
    rw [Nat.zero_add]
  | a :: l, hs => by
    obtain ⟨h1, h2⟩ := List.pairwise_cons.1 hs
    rw [addE_cons]
    by_cases h : edLt a x = true
    · rw [if_pos h, edNum_cons, if_neg (edLt_ne h)]
      exact addE_flag h2
    · rw [if_neg h]
      by_cases h3 : edLt x a = true
      · rw [if_pos h3, edNum_none (k := edK x) (fun e he => by
          rcases List.mem_cons.1 he with rfl | he
          · exact (edLt_ne h3).symm
          · exact (edLt_ne (edLt_tr h3 (h1 e he))).symm), Nat.zero_add]
      · rw [if_neg h3, edNum_cons, if_pos (edLt_tri (Bool.eq_false_iff.2 h) (Bool.eq_false_iff.2 h3))]
        by_cases h4 : 4611686018427387904 < x.n ∨ 4611686018427387904 - x.n < a.n
        · rw [if_pos h4]
          exact (decide_eq_false (by omega)).symm
        · rw [if_neg h4]
          exact (decide_eq_true (by omega)).symm
theorem addE_mem {x : Ed} : ∀ {l : List Ed}, StrEd l → edNum l (edK x) + x.n ≤ 4611686018427387904 → ∀ e, e ∈ (addE x l).1 ↔ (e ∈ l ∧ edK e ≠ edK x) ∨ e = mkEd (edK x, edNum l (edK x) + x.n)
  | [], _, _, e => by
    show e ∈ [x] ↔ _
    rw [List.mem_singleton]
    have : mkEd (edK x, edNum [] (edK x) + x.n) = x := by
      show mkEd (edK x, 0 + x.n) = x
      rw [Nat.zero_add]
      rfl
    rw [this]
    simp
  | a :: l, hs, ho, e => by
    obtain ⟨h1, h2⟩ := List.pairwise_cons.1 hs
    rw [addE_cons]
    rw [edNum_cons] at ho ⊢
    by_cases h : edLt a x = true
    · rw [if_pos h]
      rw [if_neg (edLt_ne h)] at ho ⊢
      have ih := addE_mem h2 ho e
      simp only [List.mem_cons, ih]
      constructor
      · rintro (rfl | ⟨h3, h4⟩ | h3)
        · exact .inl ⟨.inl rfl, edLt_ne h⟩
        · exact .inl ⟨.inr h3, h4⟩
        · exact .inr h3
      · rintro (⟨rfl | h3, h4⟩ | h3)
        · exact .inl rfl
        · exact .inr (.inl ⟨h3, h4⟩)
        · exact .inr (.inr h3)
    · rw [if_neg h]
      by_cases h3 : edLt x a = true
      · have hno : ∀ e ∈ a :: l, edK e ≠ edK x := fun e he => by
          rcases List.mem_cons.1 he with rfl | he
          · exact (edLt_ne h3).symm
          · exact (edLt_ne (edLt_tr h3 (h1 e he))).symm
        have h0 := edNum_none hno
        rw [edNum_cons] at h0
        rw [if_pos h3, h0, Nat.zero_add, mk_un, List.mem_cons]
        constructor
        · rintro (rfl | h4)
          · exact .inr rfl
          · exact .inl ⟨h4, hno e h4⟩
        · rintro (⟨h4, _⟩ | h4)
          · exact .inr h4
          · exact .inl h4
      · have hk := edLt_tri (Bool.eq_false_iff.2 h) (Bool.eq_false_iff.2 h3)
        rw [if_pos hk] at ho ⊢
        rw [if_neg h3, if_neg (by omega)]
        have hm : (⟨a.b, a.f, a.t, a.n + x.n⟩ : Ed) = mkEd (edK x, a.n + x.n) := by rw [← hk]; rfl
        rw [hm, List.mem_cons, List.mem_cons]
        constructor
        · rintro (h4 | h4)
          · exact .inr h4
          · exact .inl ⟨.inr h4, fun e1 => edLt_ne (h1 e h4) (hk.trans e1.symm)⟩
        · rintro (⟨rfl | h4, h5⟩ | h4)
          · exact absurd hk h5
          · exact .inr h4
          · exact .inl h4
theorem addE_str {x : Ed} : ∀ {l : List Ed}, StrEd l → edNum l (edK x) + x.n ≤ 4611686018427387904 → StrEd (addE x l).1
  | [], _, _ => List.pairwise_singleton _ _
  | a :: l, hs, ho => by
    obtain ⟨h1, h2⟩ := List.pairwise_cons.1 hs
    rw [addE_cons]
    rw [edNum_cons] at ho
    by_cases h : edLt a x = true
    · rw [if_pos h]
      rw [if_neg (edLt_ne h)] at ho
      refine List.pairwise_cons.2 ⟨fun e he => ?_, addE_str h2 ho⟩
      rcases (addE_mem h2 ho e).1 he with ⟨h3, _⟩ | h3
      · exact h1 e h3
      · rw [← h]
        exact edLt_key rfl (by rw [h3]; rfl)
    · rw [if_neg h]
      by_cases h3 : edLt x a = true
      · rw [if_pos h3]
        refine List.pairwise_cons.2 ⟨fun e he => ?_, hs⟩
        rcases List.mem_cons.1 he with rfl | he
        · exact h3
        · exact edLt_tr h3 (h1 e he)
      · have hk := edLt_tri (Bool.eq_false_iff.2 h) (Bool.eq_false_iff.2 h3)
        rw [if_pos hk] at ho
        rw [if_neg h3, if_neg (by omega)]
        exact List.pairwise_cons.2 ⟨fun e he => (edLt_key rfl rfl).trans (h1 e he), h2⟩
/-! ### a map and a list say the same -/
theorem mgPut_mem {κ ν : Type} [DecidableEq κ] {k : κ} {v : ν} : ∀ {L : List (κ × ν)}, (L.map (·.1)).Nodup → ∀ p, p ∈ mgPut k v L ↔ (p ∈ L ∧ p.1 ≠ k) ∨ p = (k, v)
  | [], _, p => by simp [mgPut]
  | q :: l, hn, p => by
    obtain ⟨h1, h2⟩ := List.nodup_cons.1 hn
    rw [mgPut]
    by_cases h : q.1 = k
    · rw [if_pos h, List.mem_cons, List.mem_cons]
      constructor
      · rintro (h3 | h3)
        · exact .inr h3
        · exact .inl ⟨.inr h3, fun e => h1 (List.mem_map.2 ⟨p, h3, e.trans h.symm⟩)⟩
      · rintro (⟨rfl | h3, h4⟩ | h3)
        · exact absurd h h4
        · exact .inr h3
        · exact .inl h3
    · rw [if_neg h, List.mem_cons, List.mem_cons, mgPut_mem h2 p]
      constructor
      · rintro (rfl | ⟨h3, h4⟩ | h3)
        · exact .inl ⟨.inl rfl, h⟩
        · exact .inl ⟨.inr h3, h4⟩
        · exact .inr h3
      · rintro (⟨rfl | h3, h4⟩ | h3)
        · exact .inl rfl
        · exact .inr (.inl ⟨h3, h4⟩)
        · exact .inr (.inr h3)
structure Same (M : List (Ek × Nat)) (out : List Ed) : Prop where
  nd : (M.map (·.1)).Nodup
  st : StrEd out
  mem : ∀ p, p ∈ M ↔ mkEd p ∈ out
theorem Same.nil : Same [] [] := ⟨List.nodup_nil, List.Pairwise.nil, fun p => by simp⟩
theorem Same.num {M : List (Ek × Nat)} {out : List Ed} (h : Same M out) (k : Ek) : (mgGet k M).getD 0 = edNum out k := by
  cases hg : mgGet k M with
  | some v =>
    have h1 := (h.mem _).1 (mgGet_mem hg)
    have h2 := edNum_mem h.st h1
    exact h2.symm
  | none =>
    symm
    refine edNum_none fun e he hk => ?_
    have h1 := (h.mem (edK e, e.n)).2 he
    rw [hk] at h1
    rw [mgGet_some h.nd h1] at hg
    cases hg
theorem Same.step {M : List (Ek × Nat)} {out : List Ed} {x : Ed} (h : Same M out) (ho : edNum out (edK x) + x.n ≤ 4611686018427387904) : Same (addK (edK x) x.n M) (addE x out).1 := by
  refine ⟨mgPut_nodup h.nd, addE_str h.st ho, fun p => ?_⟩
  rw [addK, mgPut_mem h.nd, addE_mem h.st ho, h.num, h.mem, Nat.min_eq_left (by omega), Nat.min_eq_left (by omega)]
  refine or_congr Iff.rfl ⟨fun e => by rw [e], fun e => mk_inj e⟩
def BadM (M : List (Ek × Nat)) : Prop := ∃ p ∈ M, 4611686018427387904 < p.2
theorem BadM.step {M : List (Ek × Nat)} {k : Ek} {n : Nat} (hn : (M.map (·.1)).Nodup) (h : BadM M) : BadM (addK k n M) := by
  obtain ⟨p, hp, hlt⟩ := h
  by_cases hk : p.1 = k
  · refine ⟨(k, min ((mgGet k M).getD 0) 4611686018427387905 + min n 4611686018427387905), (mgPut_mem hn _).2 (.inr rfl), ?_⟩
    rw [mgGet_some hn (show (k, p.2) ∈ M by rw [← hk]; exact hp)]
    show _ < min p.2 _ + _
    omega
  · exact ⟨p, (mgPut_mem hn _).2 (.inl ⟨hp, hk⟩), hlt⟩
theorem Same.bad {M : List (Ek × Nat)} {out : List Ed} {x : Ed} (h : Same M out) (ho : ¬ edNum out (edK x) + x.n ≤ 4611686018427387904) : BadM (addK (edK x) x.n M) := by
  refine ⟨(edK x, _), (mgPut_mem h.nd _).2 (.inr rfl), ?_⟩
  rw [h.num]
  show _ < min _ _ + min _ _
  omega
/-- All of them added, in turn. -/
def addAll : List Ed → List Ed → Option (List Ed)
  | [], out => some out
  | x :: xs, out => if (addE x out).2 = true then addAll xs (addE x out).1 else none
def mgAll (xs : List Ed) (M : List (Ek × Nat)) : List (Ek × Nat) := xs.foldl (fun M x => addK (edK x) x.n M) M
theorem mgAll_bad {xs : List Ed} : ∀ {M : List (Ek × Nat)}, (M.map (·.1)).Nodup → BadM M → BadM (mgAll xs M) := by
  induction xs with
  | nil => intro M _ h; exact h
  | cons x xs ih => intro M hn h; exact ih (mgPut_nodup hn) (h.step hn)
theorem mgAll_nodup {xs : List Ed} : ∀ {M : List (Ek × Nat)}, (M.map (·.1)).Nodup → ((mgAll xs M).map (·.1)).Nodup := by
  induction xs with
  | nil => intro M h; exact h
  | cons x xs ih => intro M hn; exact ih (mgPut_nodup hn)
theorem mgAll_snoc (xs : List Ed) (x : Ed) (M : List (Ek × Nat)) : mgAll (xs ++ [x]) M = addK (edK x) x.n (mgAll xs M) := by simp [mgAll]
theorem mgAll_len (xs : List Ed) : ∀ (M : List (Ek × Nat)), (mgAll xs M).length ≤ M.length + xs.length := by
  induction xs with
  | nil => intro M; exact Nat.le_refl _
  | cons x xs ih =>
    intro M
    have h1 := ih (addK (edK x) x.n M)
    have h2 := mgPut_len_le (k := edK x) (v := min ((mgGet (edK x) M).getD 0) 4611686018427387905 + min x.n 4611686018427387905) M
    have h3 : (addK (edK x) x.n M).length ≤ M.length + 1 := h2
    show (mgAll xs (addK (edK x) x.n M)).length ≤ _
    simp only [List.length_cons]
    omega
/-- What is in a list that all were added to. -/
def AllSaid (r : Option (List Ed)) (M : List (Ek × Nat)) : Prop :=
  match r with
  | some o => Same M o ∧ ∀ e ∈ o, e.n ≤ 4611686018427387904
  | none => BadM M
theorem addAll_same {xs : List Ed} : ∀ {M : List (Ek × Nat)} {out : List Ed}, Same M out → (∀ e ∈ out, e.n ≤ 4611686018427387904) → AllSaid (addAll xs out) (mgAll xs M) := by
  induction xs with
  | nil => intro M out h hf; exact ⟨h, hf⟩
  | cons x xs ih =>
    intro M out h hf
    rw [addAll, addE_flag h.st]
    by_cases ho : edNum out (edK x) + x.n ≤ 4611686018427387904
    · rw [if_pos (decide_eq_true ho)]
      refine ih (h.step ho) fun e he => ?_
      rcases (addE_mem h.st ho e).1 he with ⟨h1, _⟩ | h1
      · exact hf e h1
      · rw [h1]; exact ho
    · rw [if_neg (by simp; omega)]
      show BadM (mgAll xs (addK (edK x) x.n M))
      exact mgAll_bad (mgPut_nodup h.nd) (h.bad ho)
/-- Sorted, and the map's: the list. -/
theorem Same.sorted {M : List (Ek × Nat)} {out l : List Ed} (h : Same M out) (hp : l.Perm (M.map mkEd)) (hs : SortEd l) : l = out := by
  have hkl : (l.map edK).Perm (M.map (·.1)) := by
    have := hp.map edK
    rw [List.map_map] at this
    exact this
  have hnd : (l.map edK).Nodup := hkl.nodup_iff.2 h.nd
  have hstr : StrEd l := by
    have h1 := List.pairwise_map.1 hnd
    refine (List.Pairwise.and hs h1).imp ?_
    rintro a b ⟨h2, h3⟩
    rw [edLt_cmp]
    have r := ekCmp_cmp.rng (edK a) (edK b)
    have : ekCmp (edK a) (edK b) ≠ 0 := fun e => h3 ((ekCmp_cmp.eq _ _).1 e)
    omega
  have hnl : l.Nodup := hstr.imp fun h e => by rw [e, edLt_irr] at h; cases h
  have hno : out.Nodup := h.st.imp fun h e => by rw [e, edLt_irr] at h; cases h
  have hperm : l.Perm out := (List.perm_ext_iff_of_nodup hnl hno).2 fun e => by
    rw [hp.mem_iff, List.mem_map]
    constructor
    · rintro ⟨p, h1, rfl⟩
      exact (h.mem p).1 h1
    · intro h1
      exact ⟨(edK e, e.n), (h.mem _).2 h1, rfl⟩
  exact List.Perm.eq_of_pairwise (le := fun a b => edLt a b = true) (fun a b _ _ h1 h2 => by
    have := edLt_tr h1 h2
    rw [edLt_irr] at this
    cases this) hstr h.st hperm
end Go.Proofs.Ythaiplhjekkooaa

/- deps: list. -/
namespace Go.Proofs.Ythaiplhjekkooaa
open Go.RowKit Go.MapKept
theorem loadEk_shutJ (a : Addr) : loadVar 71 a = loadK 71 a := rfl
attribute [local go_sem ↓] loadEk_shutJ

def sliceN : Value → Nat
  | .slice _ n _ => n
  | _ => 0
theorem rgOut_length {κ ν : Type} {kv : κ → Value} {vv : ν → Value} {w : World} {b r : Nat} {L : List (κ × ν)} {seen : Array Nat} (h : Rg kv vv w b r L seen) : (rgOut L seen).length = seen.size := by
  have : ∀ s : List Nat, (∀ i ∈ s, i < L.length) → (s.filterMap fun i => L[i]?).length = s.length := by
    intro s
    induction s with
    | nil => intro _; rfl
    | cons i s ih =>
      intro hs
      have hi := hs i (List.mem_cons_self ..)
      rw [List.filterMap_cons, List.getElem?_eq_getElem hi]
      simp only [List.length_cons]
      rw [ih (fun j hj => hs j (List.mem_cons_of_mem _ hj))]
  rw [rgOut, this _ h.lt]
  simp
def ListPost (w : World) (L : List (Ek × Nat)) (e : Ending) (w' : World) : Prop :=
  (∃ p ∈ L, 4611686018427387904 < p.2) ∧ e = .returned (.tuple #[.slice none 0 0, .bool false]) ∧ Below w.heap.size w w' ∨
  (∀ p ∈ L, p.2 ≤ 4611686018427387904) ∧ ∃ A c n l, l.Perm (L.map mkEd) ∧ SortEd l ∧ l.length = n ∧ e = .returned (.tuple #[.slice A n c, .bool true]) ∧ w'.ownsRow w.heap.size 47 4 (.slice A n c) n (eds l) ∧ Below w.heap.size w w'
theorem own_baseJ {w : World} {b b' size n : Nat} {e : TypeId} {v : Value} {xs : List Value} (h : w.ownsRow b e size v n xs) (hb : b' ≤ b) : w.ownsRow b' e size v n xs :=
  ⟨h.1, h.2.imp id fun ⟨g, cap, cur, h1, h2, h3⟩ => ⟨g, cap, cur, h1, Nat.le_trans hb h2, h3⟩⟩
theorem below_grownJ {w w' : World} {k : Option Nat} {B : Nat} (hg : w.grownBy w' k) (hB : B ≤ w.heap.size) (hk : ∀ j, k = some j → B ≤ j) : Below B w w' :=
  ⟨hg.os, hg.tape, hg.output, hg.size, fun i hi => hg.block i (Nat.lt_of_lt_of_le hi hB) (fun e => by have := hk i e.symm; omega)⟩
set_option maxRecDepth 100000 in
set_option maxHeartbeats 4000000 in
theorem deList {b : Nat} {L : List (Ek × Nat)} (w : World) (h : Mg ekV uvV w b L) (hL : L.length ≤ 100000) :
    Calls Try.prog 36 #[.map (some b)] w (ListPost w L) := by
  have hrg := run_mgRange (P := Try.prog) Try.underlying67 h
  have rg0 := Rg.start h
  have hb0 : Below w.heap.size w (w.alloc (.mapIter (some b) L.length #[] L.length)) := (Below.refl _ w).alloc (Nat.le_refl _) _
  have own0 : (w.alloc (.mapIter (some b) L.length #[] L.length)).ownsRow (w.heap.size + 1) 47 4 (.slice none 0 0) 0 [] := World.ownsRow_nil _ _ _ _
  obtain ⟨w1, hw1⟩ : ∃ w1, w.alloc (.mapIter (some b) L.length #[] L.length) = w1 := ⟨_, rfl⟩
  obtain ⟨r, hr⟩ : ∃ r, w.heap.size = r := ⟨_, rfl⟩
  rw [hw1] at hrg rg0 hb0 own0
  rw [hr] at hrg rg0 hb0 own0
  have hbr : b < r := by rw [← hr]; exact h.lt
  have HP := Lib.hid (show ListPost w L = ListPost w L from rfl)
  have HR := Lib.hid hr
  clear hw1 hr h
  go_enter Try.func36, Try.ntmps36
  go_wp2_with fail
  go_loopw [4] (fun out_ wr => ∃ (seen : Array Nat) (m c' : Nat) (A' : Option Addr), out_ = .slice A' m c' ∧ m ≤ L.length ∧ seen.size = m ∧ Rg ekV uvV wr b r L seen ∧ (∀ p ∈ rgOut L seen, p.2 ≤ 4611686018427387904) ∧ wr.ownsRow (r + 1) 47 4 (.slice A' m c') m (eds ((rgOut L seen).map mkEd)) ∧ Below r w wr) (fun out_ _ => L.length - sliceN out_)
  case atStart => exact ⟨#[], 0, 0, none, rfl, Nat.zero_le _, rfl, rg0, (fun p hp => by cases hp), own0, hb0⟩
  case round =>
    obtain ⟨seen, m, c', A', rfl, hm, hsm, hrgw, hall, hown, hbw⟩ := hrel
    rcases hrgw.next (P := Try.prog) 0 with ⟨hperm, hrun⟩ | ⟨k, v, seen', w2, hkv, hrun, hrg2, hout, hsz, hszl, hgr, hhs, hent⟩
    · have hnx : ∀ ty, (Instr.next (.pointer (some ⟨r, 0, none⟩)) false ty).run Try.prog wr = _ := fun _ => hrun
      clear hrun
      have hlen : ((rgOut L seen).map mkEd).length = m := by rw [List.length_map, rgOut_length hrgw, hsm]
      have hso := sortEds wr hown hlen (by omega)
      have hpm := hperm.map mkEd
      have hal : ∀ p ∈ L, p.2 ≤ 4611686018427387904 := fun p hp => hall p (hperm.mem_iff.2 hp)
      have HPM := Lib.hid hpm
      have HAL := Lib.hid hal
      have HBW := Lib.hid hbw
      have HLT := Lib.hid (World.ownsRow.lt hown)
      have HLE := Lib.hid hlen
      clear hpm hal hperm hall hown hbw hlen hrgw
      go_wp2_with fail
      refine hso.mono ?_
      rintro en w3 ⟨rfl, l', hp', hs', hown', hgr'⟩
      go_wp2_with fail
      go_ret2
      refine .inr ⟨HAL.out, A', c', m, l', hp'.trans HPM.out, hs', by rw [hp'.length_eq, HLE.out], rfl, own_baseJ (by rw [HR.out]; exact hown') (Nat.le_succ _), ?_⟩
      rw [HR.out]
      exact HBW.out.trans (below_grownJ hgr' (Nat.le_trans (by have := HR.out; omega) HBW.out.size) (fun j hj => by have := (HLT.out j hj).1; omega))
    · have hnx : ∀ ty, (Instr.next (.pointer (some ⟨r, 0, none⟩)) false ty).run Try.prog wr = _ := fun _ => hrun
      have hen := hent w2 hrg2
      clear hrun
      by_cases hv : 4611686018427387904 < v
      · have hv' : (4611686018427387904 : Int) < (v : Int) := by omega
        have hb2 : Below r w w2 := hbw.trans (below_grownJ hgr (Nat.le_trans (by have := HR.out; omega) hbw.size) (fun j hj => by have := Option.some.inj hj; omega))
        have HB2 := Lib.hid (hb2.alloc (by have := hb2.size; have := HR.out; omega) (.cells (ekA k) 71))
        have HKV := Lib.hid hkv
        clear hb2 hkv hbw hgr hall hown hrgw hrg2 hent hhs
        go_wp2_with fail
        go_ret2
        exact .inl ⟨⟨(k, v), HKV.out, hv⟩, rfl, by rw [HR.out]; exact HB2.out⟩
      · have hv' : decide ((4611686018427387904 : Int) < (v : Int)) = false := by simp; omega
        have hb2 : Below r w w2 := hbw.trans (below_grownJ hgr (Nat.le_trans (by have := HR.out; omega) hbw.size) (fun j hj => by have := Option.some.inj hj; omega))
        have hb3 := hb2.alloc (by have := hb2.size; have := HR.out; omega) (.cells (ekA k) 71)
        have own2 := World.ownsRow.kept hown hgr (.inr fun e => by have := ((World.ownsRow.lt hown) r e).1; omega)
        have own3 := (own2.alloc (.cells (ekA k) 71)).alloc (.cells (edA (mkEd (k, v))) 47)
        have rg3 := hrg2.bS ((Below.refl w2.heap.size w2).alloc (Nat.le_refl _) (.cells (ekA k) 71))
        have hb4 := hb3.alloc (by have := hb3.size; have := HR.out; omega) (.cells (edA (mkEd (k, v))) 47)
        obtain ⟨W3, hW3⟩ : ∃ W3, w2.alloc (.cells (ekA k) 71) = W3 := ⟨_, rfl⟩
        have hW3s : W3.heap.size = w2.heap.size + 1 := by rw [← hW3]; simp
        rw [hW3] at own3 rg3 hb4
        have rg4 := rg3.bS ((Below.refl W3.heap.size W3).alloc (Nat.le_refl _) (.cells (edA (mkEd (k, v))) 47))
        have hrr := hrg2.ltr
        have hrd := Rd.lit W3 (edA (mkEd (k, v))) 47
        rw [hW3s] at hrd
        have HAL2 := Lib.hid (show ∀ p ∈ rgOut L seen', p.2 ≤ 4611686018427387904 from fun p hp => by
          rw [hout] at hp
          rcases List.mem_append.1 hp with hp | hp
          · exact hall p hp
          · simp at hp
            subst hp
            exact Nat.le_of_not_lt hv)
        have HOUT := Lib.hid (show (rgOut L seen').map mkEd = (rgOut L seen).map mkEd ++ [mkEd (k, v)] by rw [hout, List.map_append]; rfl)
        have HW3 := Lib.hid hW3
        have HB4 := Lib.hid hb4
        have HLT := Lib.hid (World.ownsRow.lt own3)
        have HRG := Lib.hid rg4
        have HO3 := Lib.hid own3
        have HRD := Lib.hid hrd
        clear hhs hW3 hb2 hb3 hb4 own2 rg3 rg4 hall hout hown hrgw hent hgr hbw own3 hrd hrg2 hkv
        go_wp2_with (at_builtin; go_loud (rw [HW3.out]; refine wpList_appD _ rfl (.tmp 16) (.tmp 25) rfl (r + 1) _ m ((rgOut L seen).map mkEd) rfl HO3.out _ (some ⟨w2.heap.size + 1, 0, none⟩) 1 1 [mkEd (k, v)] rfl rfl HRD.out (by omega) (by simp; omega) ?_))
        intro A5 c5 w5 hap _
        go_wp2_with fail
        have hb5 : Below r w w5 := HB4.out.trans (hap.below (by simp; omega) (fun j hj => by have := (HLT.out j hj).1; omega))
        exact ⟨⟨seen', m + 1, c5, A5, rfl, by omega, by omega, HRG.out.grown hap.grown (fun e => by have := (HLT.out b e.symm).1; omega) (fun e => by have := (HLT.out r e.symm).1; omega), HAL2.out, by rw [HOUT.out]; exact hap.own, hb5⟩, by simp only [sliceN]; omega⟩
end Go.Proofs.Ythaiplhjekkooaa
