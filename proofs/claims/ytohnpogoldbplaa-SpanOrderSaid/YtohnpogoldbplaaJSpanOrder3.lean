/- Texts of the proof of SpanOrderSaid, joined: SpC SpK SpL SpP SpQ Str SpA SpB. -/
import Derived.Test.YtohnpogoldbplaaJSpanOrder2
import Derived.Laws.ResultCell
import Derived.Deep.RegionWith
import Derived.Laws.IdiomStrings
import Derived.Lib.SmallJoins
import Derived.Test.YtohnpogoldbplaaJSpanOrder1
import Derived.Deep.RegionHeld3
/- Spans: long, Check. -/
namespace Go.Proofs.Ytohnpogoldbplaa
open Go.RowKit

/-- The first that p tells, or -1. -/
def idxT (p : Tg → Bool) (l : List Tg) : Int := match l.findIdx? p with | some i => (i : Int) | none => -1
theorem idxT_hit {p : Tg → Bool} {l : List Tg} {j : Nat} {x : Tg} (h : (l.take j).any p = false) (hx : l[j]? = some x) (hp : p x = true) : idxT p l = j := by
  have hj := (List.getElem?_eq_some_iff.1 hx).1
  have : l.findIdx? p = some j := by
    rw [List.findIdx?_eq_some_iff_getElem]
    refine ⟨hj, by rw [(List.getElem?_eq_some_iff.1 hx).2]; exact hp, fun i hi => ?_⟩
    have h1 := List.any_eq_false.1 h (l[i]'(by omega)) (List.mem_of_getElem? (i := i) (by rw [List.getElem?_take, if_pos hi]; exact List.getElem?_eq_getElem _))
    simpa using h1
  rw [idxT, this]
theorem idxT_none {p : Tg → Bool} {l : List Tg} (h : l.any p = false) : idxT p l = -1 := by
  have : l.findIdx? p = none := by
    rw [List.findIdx?_eq_none_iff]
    intro x hx
    have := List.any_eq_false.1 h x hx
    simpa using this
  rw [idxT, this]
theorem idxT_any (p : Tg → Bool) (l : List Tg) : decide (0 ≤ idxT p l) = l.any p := by
  by_cases h : l.any p = true
  · rw [h, decide_eq_true_iff, idxT]
    cases hf : l.findIdx? p with
    | none =>
      rw [List.findIdx?_eq_none_iff] at hf
      obtain ⟨x, hx, hp⟩ := List.any_eq_true.1 h
      rw [hf x hx] at hp
      cases hp
    | some i => simp only; omega
  · have h : l.any p = false := by simpa using h
    rw [h, idxT_none h]
    rfl

set_option maxHeartbeats 400000 in
theorem spIndexLong {A : Option Addr} {c n B : Nat} {l : List Tg} (w : World) (hf : RbT w B A l) (hn : l.length = n) (hB : B ≤ w.heap.size) (hnl : n ≤ 9223372036854775807) :
    Calls Try.prog 55 #[.slice A n c, .func (.func 85) #[] #[]] w fun e w' => e = .returned (.int .i64 (idxT tgLong l)) ∧ Below w.heap.size w w' := by
  have HN := Lib.hid hn
  obtain ⟨q, hq⟩ : ∃ q, idxT tgLong l = q := ⟨_, rfl⟩
  rw [hq]
  have HQ := Lib.hid hq
  clear hn hq
  go_enter Try.func55, Try.ntmps55
  go_wp2
  go_loopw [8] (fun iv_ wr => ∃ j : Nat, j ≤ n ∧ iv_ = .int .i64 j ∧ (l.take j).any tgLong = false ∧ Below w.heap.size w wr) (fun i _ => n - (intOf i).toNat)
  case atStart => exact ⟨0, by omega, rfl, rfl, Below.refl _ _⟩
  case round =>
    obtain ⟨j, hj, rfl, hall, hb⟩ := hrel
    have HA := Lib.hid hall
    clear hall
    by_cases hlt : j < n
    · have hlt' : (j : Int) < (n : Int) := by omega
      obtain ⟨x, hx⟩ : ∃ x, l[j]? = some x := ⟨_, List.getElem?_eq_getElem (by rw [HN.out]; exact hlt)⟩
      obtain ⟨b, o, rfl, hbb, h1, h2⟩ := RbT.get (Rd.below hf (hb.mono hB)) hx
      have HX := Lib.hid hx
      clear hx
      go_wp2_with (go_at_call 85; refine (spLong1 _ x).mono ?_; rintro e w' ⟨rfl, hb'⟩)
      · have hb2 := hb.trans (hb'.mono hb.size)
        rename_i hpx
        go_ret
        have hqt : q = (j : Int) := by
          rw [← HQ.out]
          exact idxT_hit HA.out HX.out (by first | exact hpx | simpa using hpx)
        exact ⟨by rw [hqt]; rfl, hb2⟩
      · have hb2 := hb.trans (hb'.mono hb.size)
        rename_i hpx
        go_roundw
        case rel => exact ⟨j + 1, by omega, by go_num, by rw [take_snoc HX.out, List.any_append, HA.out]; simpa using hpx, hb2⟩
        case measure => simp [intOf]; omega
    · have hlt' : decide ((j : Int) < (n : Int)) = false := by simp; omega
      go_wp2
      go_ret
      have : q = -1 := by
        rw [← HQ.out]
        have h1 := HA.out
        rw [List.take_of_length_le (by rw [HN.out]; omega)] at h1
        exact idxT_none h1
      exact ⟨by rw [this]; rfl, hb⟩

theorem spHasLong {A : Option Addr} {c n B : Nat} {l : List Tg} (w : World) (hf : RbT w B A l) (hn : l.length = n) (hB : B ≤ w.heap.size) (hnl : n ≤ 9223372036854775807) :
    Calls Try.prog 84 #[.slice A n c, .func (.func 85) #[] #[]] w fun e w' => e = .returned (.bool (l.any tgLong)) ∧ Below w.heap.size w w' := by
  have hc := spIndexLong (c := c) w hf hn hB hnl
  have ha := idxT_any tgLong l
  obtain ⟨q, hq⟩ : ∃ q, idxT tgLong l = q := ⟨_, rfl⟩
  rw [hq] at hc ha
  rw [← ha]
  have HC := Lib.hid hc
  clear hc hq ha
  go_enter Try.func84, Try.ntmps84
  go_wp2_with (go_at_call 55; refine HC.out.mono ?_; rintro e w' ⟨rfl, hb'⟩)
  go_ret
  exact ⟨rfl, hb'⟩

set_option maxHeartbeats 400000 in
theorem spLong {A : Option Addr} {c n B : Nat} (s : Sp) (w : World) (hf : RbT w B A s.tags) (hn : s.tags.length = n) (hB : B ≤ w.heap.size) (hnl : n ≤ 9223372036854775807) :
    Calls Try.prog 49 #[spV s A n c] w fun e w' => e = .returned (.bool (longB s)) ∧ Below w.heap.size w w' := by
  obtain ⟨q, hq⟩ : ∃ q, longB s = q := ⟨_, rfl⟩
  rw [hq]
  unfold longB at hq
  rw [hn] at hq
  have HQ := Lib.hid hq
  have hb0 : Below w.heap.size w (w.alloc (.cells (spC s A n c) 27)) := (Below.refl _ w).alloc (Nat.le_refl _) _
  have hf1 := Rd.alloc hf hB (.cells (spC s A n c) 27)
  clear hq
  by_cases h1 : 128 < s.service.size
  · have d1 : (128 : Int) < (s.service.size : Int) := by omega
    go_enter Try.func49, Try.ntmps49
    go_wp2
    go_ret
    have : q = true := by rw [← HQ.out]; simp [h1]
    exact ⟨by rw [this]; rfl, hb0⟩
  have d1 : decide ((128 : Int) < (s.service.size : Int)) = false := by simp; omega
  by_cases h2 : 128 < s.name.size
  · have d2 : (128 : Int) < (s.name.size : Int) := by omega
    go_enter Try.func49, Try.ntmps49
    go_wp2
    go_ret
    have : q = true := by rw [← HQ.out]; simp [h2]
    exact ⟨by rw [this]; rfl, hb0⟩
  have d2 : decide ((128 : Int) < (s.name.size : Int)) = false := by simp; omega
  by_cases h3 : 16 < n
  · have d3 : (16 : Int) < (n : Int) := by omega
    go_enter Try.func49, Try.ntmps49
    go_wp2
    go_ret
    have : q = true := by rw [← HQ.out]; simp [h3]
    exact ⟨by rw [this]; rfl, hb0⟩
  have d3 : decide ((16 : Int) < (n : Int)) = false := by simp; omega
  have hc := spHasLong (c := c) _ hf1 hn (by simp; omega) hnl
  obtain ⟨a, ha⟩ : ∃ a, s.tags.any tgLong = a := ⟨_, rfl⟩
  rw [ha] at hc
  have hqa : q = a := by rw [← HQ.out, ha]; simp [h1, h2, h3]
  have HC := Lib.hid hc
  clear hc ha
  go_enter Try.func49, Try.ntmps49
  go_wp2_with (go_at_call 84; refine HC.out.mono ?_; rintro e w' ⟨rfl, hb'⟩)
  go_ret
  exact ⟨by rw [hqa]; rfl, hb0.trans (hb'.mono (by simp))⟩
end Go.Proofs.Ytohnpogoldbplaa

/- Spans: Check. -/
namespace Go.Proofs.Ytohnpogoldbplaa
open Go.RowKit

theorem tagOk_at {l : List Tg} {i : Nat} {t : Tg} (h : l[i]? = some t) : tagOk l i = (nameB t.key && txtB t.val && (decide (i = 0) || match l[i - 1]? with | none => true | some u => strLt u.key t.key)) := by
  simp only [tagOk, h]
  rfl
set_option maxRecDepth 100000 in
set_option maxHeartbeats 2000000 in
/-- Check of a span that is not too long and whose head is right. -/
theorem spCheck1 {A : Option Addr} {c n B : Nat} (s : Sp) (w : World) (hf : RbT w B A s.tags) (hn : s.tags.length = n) (hB : B ≤ w.heap.size) (hnl : n ≤ 9223372036854775807) (hlong : longB s = false) (hhead : headB s = true) :
    Calls Try.prog 14 #[spV s A n c] w fun e w' => e = .returned (.int .i64 (if tagsOk s.tags n = true then 0 else 2 : Nat)) ∧ Below w.heap.size w w' := by
  have hb0 : Below w.heap.size w (w.alloc (.cells (spC s A n c) 27)) := (Below.refl _ w).alloc (Nat.le_refl _) _
  have hf1 := Rd.alloc hf hB (.cells (spC s A n c) 27)
  have bk := Bk.new w 27 (spC s A n c)
  have hs1 : (w.alloc (.cells (spC s A n c) 27)).heap.size = w.heap.size + 1 := by simp
  obtain ⟨w1, hw1⟩ : ∃ w1, w.alloc (.cells (spC s A n c) 27) = w1 := ⟨_, rfl⟩
  rw [hw1] at hb0 hf1 bk hs1
  have HW := Lib.hid hw1
  have hc := spLong (c := c) s w1 hf1 hn (by omega) hnl
  rw [hlong] at hc
  have HC := Lib.hid hc
  obtain ⟨q, hq⟩ : ∃ q, tagsOk s.tags n = q := ⟨_, rfl⟩
  rw [hq]
  have HQ := Lib.hid hq
  have HN := Lib.hid hn
  clear hw1 hc hq hn hlong
  simp only [headB, Bool.and_eq_true, Bool.or_eq_true, decide_eq_true_eq, ne_eq] at hhead
  obtain ⟨⟨⟨⟨⟨⟨⟨⟨⟨h0, h1⟩, h2⟩, h3⟩, h4⟩, h5⟩, h6⟩, h7⟩, h8⟩, h9⟩ := hhead
  have N2 := Lib.hid h2
  have N3 := Lib.hid h3
  have d1 : ((s.id : Int) != 0) = true := by rw [bne_iff_ne]; omega
  go_enter Try.func14, Try.ntmps14
  go_wp2_with fail
  rw [HW.out]
  refine HC.out.mono ?_
  rintro e w2 ⟨rfl, hb2⟩
  have hs2 := hb2.size
  have hb02 := hb0.trans (hb2.mono (by omega))
  have hf2 := (Rd.below hf1 (hb2.mono (by omega))).more (show B ≤ w2.heap.size by omega)
  have bk2 := bk.below hb2 (by omega)
  obtain ⟨g, hg⟩ : ∃ g, w.heap.size = g := ⟨_, rfl⟩
  rw [hg] at bk2 ⊢
  have k0 : w2.cell? ⟨g, 0, none⟩ = some (.int .u64 s.hi) := bk2.cell 0
  have k1 : w2.cell? ⟨g, 1, none⟩ = some (.int .u64 s.lo) := bk2.cell 1
  have k2 : w2.cell? ⟨g, 2, none⟩ = some (.int .u64 s.id) := bk2.cell 2
  have k4 : w2.cell? ⟨g, 4, none⟩ = some (.string s.service) := bk2.cell 4
  have k5 : w2.cell? ⟨g, 5, none⟩ = some (.string s.name) := bk2.cell 5
  have k6 : w2.cell? ⟨g, 6, none⟩ = some (.int .i64 s.kind) := bk2.cell 6
  have k7 : w2.cell? ⟨g, 7, none⟩ = some (.int .i64 s.start) := bk2.cell 7
  have k8 : w2.cell? ⟨g, 8, none⟩ = some (.int .i64 s.length) := bk2.cell 8
  have k10 : w2.cell? ⟨g, 10, none⟩ = some (.slice A n c) := bk2.cell 10
  clear bk hf1 hb0 HW
  have HHS := Lib.hid hs2
  have HH1 := Lib.hid hs1
  have HHB := Lib.hid hB
  have HHG := Lib.hid hg
  have HB02 := Lib.hid hb02
  have HF2 := Lib.hid hf2
  have HBK := Lib.hid bk2
  clear hs2 hs1 hB hg hb02 hf2 bk2 hf hb2 h2 h3
  have h6' : decide (s.kind ≤ 5) = true := by simpa using h5
  go_wp2_with (first
    | (go_at_call 50; refine (spName _ _).mono ?_; rintro e w' ⟨rfl, hw⟩; rw [hw]; clear hw w'; first | rw [N2.out] | rw [N3.out]))
  all_goals
    go_loopw [3, 63] (fun fv iv_ wr => ∃ j : Nat, j ≤ n ∧ iv_ = .int .i64 j ∧ fv = .bool (tagsOk s.tags j) ∧ Below w2.heap.size w2 wr) (fun _ i _ => n - (intOf i).toNat)
    case atStart => exact ⟨0, by omega, rfl, rfl, Below.refl _ _⟩
    case round =>
      obtain ⟨j, hj, rfl, rfl, hb⟩ := hrel
      obtain ⟨f, hf⟩ : ∃ f, tagsOk s.tags j = f := ⟨_, rfl⟩
      rw [hf]
      have HF := Lib.hid hf
      clear hf
      have hgl : g < w2.heap.size := by have := HHG.out; have := HHS.out; have := HH1.out; omega
      by_cases hlt : j < n
      · have hlt' : (j : Int) < (n : Int) := by omega
        obtain ⟨x, hx⟩ : ∃ x, s.tags[j]? = some x := ⟨_, List.getElem?_eq_getElem (by rw [HN.out]; exact hlt)⟩
        have hRb : Rd wr w2.heap.size A (tgs s.tags) := (Rd.more HF2.out (Nat.le_refl _)).below hb
        obtain ⟨b, o, rfl, hbb, c1, c2⟩ := RbT.get hRb hx
        have k10' : wr.cell? ⟨g, 10, none⟩ = some (.slice (some ⟨b, o, none⟩) n c) := (hb.cell (p := ⟨g, 10, none⟩) hgl).trans k10
        have HX := Lib.hid hx
        clear hx
        go_wp2_with fail
        have hsr := hb.size
        have m0 : (wr.alloc (.cells #[.string x.key, .string x.val] 42)).cell? ⟨wr.heap.size, 0, none⟩ = some (.string x.key) := (Bk.new wr 42 #[.string x.key, .string x.val]).cell 0
        have m1 : (wr.alloc (.cells #[.string x.key, .string x.val] 42)).cell? ⟨wr.heap.size, 1, none⟩ = some (.string x.val) := (Bk.new wr 42 #[.string x.key, .string x.val]).cell 1
        have k10W := (World.cell?_alloc_lt wr (.cells #[.string x.key, .string x.val] 42) ⟨g, 10, none⟩ (by simp only; omega)).trans k10'
        have hRW := Rd.alloc hRb hsr (.cells #[.string x.key, .string x.val] 42)
        have hbW := hb.alloc hsr (.cells #[.string x.key, .string x.val] 42)
        obtain ⟨W, hW⟩ : ∃ W, wr.alloc (.cells #[.string x.key, .string x.val] 42) = W := ⟨_, rfl⟩
        rw [hW] at m0 m1 k10W hRW hbW ⊢
        obtain ⟨r, hr⟩ : ∃ r, wr.heap.size = r := ⟨_, rfl⟩
        rw [hr] at m0 m1 ⊢
        have HHRW := Lib.hid hRW
        have HBW := Lib.hid hbW
        clear hW hr hsr hRW hbW hRb hb hgl
        have hstep : tagsOk s.tags (j + 1) = (f && (nameB x.key && txtB x.val && (decide (j = 0) || match s.tags[j - 1]? with | none => true | some u => strLt u.key x.key))) := by
          rw [tagsOk_succ, HF.out, tagOk_at HX.out]
        by_cases hft : f = false
        · subst hft
          have HST : Hid (tagsOk s.tags (j + 1) = false) := by rw [hstep]; rfl
          clear hstep
          go_quiet (fail)
          go_wp2
          go_roundw
          case rel => exact ⟨j + 1, by omega, by go_num, by rw [HST.out], below_drewN HBW.out _⟩
          case measure => simp [intOf]; omega
        obtain rfl : f = true := by simpa using hft
        obtain ⟨n1, hn1⟩ : ∃ n1, nameB x.key = n1 := ⟨_, rfl⟩
        have cN : ∀ W', Calls Try.prog 50 #[.string x.key] W' fun e w' => e = .returned (.bool n1) ∧ w' = W' := by intro W'; have := spName W' x.key; rwa [hn1] at this
        rw [hn1] at hstep
        clear hn1 hft
        cases n1 with
        | false =>
          have HST : Hid (tagsOk s.tags (j + 1) = false) := by rw [hstep]; rfl
          clear hstep
          go_quiet ((go_at_call 50; go_loud (exact Calls.quiet_of_same (cN _))))
          go_wp2
          go_roundw
          case rel => exact ⟨j + 1, by omega, by go_num, by rw [HST.out], below_drewN HBW.out _⟩
          case measure => simp [intOf]; omega
        | true =>
        obtain ⟨t1, ht1⟩ : ∃ t1, txtB x.val = t1 := ⟨_, rfl⟩
        have cT : ∀ W', Calls Try.prog 20 #[.string x.val] W' fun e w' => e = .returned (.bool t1) ∧ w' = W' := by intro W'; have := spText W' x.val; rwa [ht1] at this
        rw [ht1] at hstep
        clear ht1
        cases t1 with
        | false =>
          have HST : Hid (tagsOk s.tags (j + 1) = false) := by rw [hstep]; rfl
          clear hstep
          go_quiet (first
            | (go_at_call 50; go_loud (exact Calls.quiet_of_same (cN _)))
            | (go_at_call 20; go_loud (exact Calls.quiet_of_same (cT _))))
          go_wp2
          go_roundw
          case rel => exact ⟨j + 1, by omega, by go_num, by rw [HST.out], below_drewN HBW.out _⟩
          case measure => simp [intOf]; omega
        | true =>
        cases j with
        | zero =>
          have HST : Hid (tagsOk s.tags (0 + 1) = true) := by rw [hstep]; rfl
          clear hstep
          go_quiet (first
            | (go_at_call 50; go_loud (exact Calls.quiet_of_same (cN _)))
            | (go_at_call 20; go_loud (exact Calls.quiet_of_same (cT _))))
          go_wp2
          go_roundw
          case rel => exact ⟨0 + 1, by omega, by go_num, by rw [HST.out], below_drewN HBW.out _⟩
          case measure => simp [intOf]; omega
        | succ k =>
          obtain ⟨u, hu⟩ : ∃ u, s.tags[k]? = some u := ⟨_, List.getElem?_eq_getElem (by rw [HN.out]; omega)⟩
          obtain ⟨b', o', e', _, p1, _⟩ := RbT.get HHRW.out hu
          cases e'
          have e1 : (k : Int) + 1 - 1 = (k : Int) := by omega
          have e2 : ((k : Int) + 1 == 0) = false := by rw [beq_eq_false_iff_ne]; omega
          have hkn : (k : Int) < (n : Int) := by omega
          have hkn' : k < n := by omega
          have hst : tagsOk s.tags (k + 1 + 1) = strLt u.key x.key := by rw [hstep, show k + 1 - 1 = k from rfl, hu]; simp
          have HST := Lib.hid hst
          clear hst
          clear hstep hu c1 c2
          go_quiet (first
            | (go_at_call 50; go_loud (exact Calls.quiet_of_same (cN _)))
            | (go_at_call 20; go_loud (exact Calls.quiet_of_same (cT _))))
          go_wp2
          go_roundw
          case rel => exact ⟨k + 1 + 1, by omega, by go_num, by rw [HST.out]; rfl, below_drewN HBW.out _⟩
          case measure => simp [intOf]; omega
      · have hlt' : decide ((j : Int) < (n : Int)) = false := by simp; omega
        obtain rfl : j = n := by omega
        have hqf : f = q := by rw [← HF.out, HQ.out]
        subst hqf
        cases f
        · go_wp2
          go_ret
          exact ⟨rfl, HB02.out.trans (hb.mono (by have := HHS.out; have := HH1.out; omega))⟩
        · go_wp2
          go_ret
          exact ⟨rfl, HB02.out.trans (hb.mono (by have := HHS.out; have := HH1.out; omega))⟩
end Go.Proofs.Ytohnpogoldbplaa

/- Spans: Check of a span whose head is not right; Check of any span. -/
namespace Go.Proofs.Ytohnpogoldbplaa
open Go.RowKit

set_option maxRecDepth 100000 in
set_option maxHeartbeats 8000000 in
/-- Check of a span that is not too long and whose head is not right. -/
theorem spCheck0 {A : Option Addr} {c n B : Nat} (s : Sp) (w : World) (hf : RbT w B A s.tags) (hn : s.tags.length = n) (hB : B ≤ w.heap.size) (hnl : n ≤ 9223372036854775807) (hlong : longB s = false) (hhead : headB s = false) :
    Calls Try.prog 14 #[spV s A n c] w fun e w' => e = .returned (.int .i64 2) ∧ Below w.heap.size w w' := by
  have hb0 : Below w.heap.size w (w.alloc (.cells (spC s A n c) 27)) := (Below.refl _ w).alloc (Nat.le_refl _) _
  have hf1 := Rd.alloc hf hB (.cells (spC s A n c) 27)
  have bk := Bk.new w 27 (spC s A n c)
  have hs1 : (w.alloc (.cells (spC s A n c) 27)).heap.size = w.heap.size + 1 := by simp
  obtain ⟨w1, hw1⟩ : ∃ w1, w.alloc (.cells (spC s A n c) 27) = w1 := ⟨_, rfl⟩
  rw [hw1] at hb0 hf1 bk hs1
  have HW := Lib.hid hw1
  have hc := spLong (c := c) s w1 hf1 hn (by omega) hnl
  rw [hlong] at hc
  have HC := Lib.hid hc
  have HN := Lib.hid hn
  clear hw1 hc hn hlong
  have hcase : (s.hi = 0 ∧ s.lo = 0) ∨ ((s.hi ≠ 0 ∨ s.lo ≠ 0) ∧ (s.id = 0 ∨ s.id ≠ 0 ∧ (nameB s.service = false ∨ nameB s.service = true ∧ (nameB s.name = false ∨ nameB s.name = true ∧ (decide (0 ≤ s.kind) = false ∨ 0 ≤ s.kind ∧ (decide (s.kind ≤ 5) = false ∨ s.kind ≤ 5 ∧
      (decide (0 ≤ s.start) = false ∨ 0 ≤ s.start ∧ (decide (0 ≤ s.length) = false ∨ 0 ≤ s.length ∧ (decide (s.start ≤ 4611686018427387903) = false ∨ s.start ≤ 4611686018427387903 ∧ decide (s.length ≤ 4611686018427387903 - s.start) = false))))))))) := by
    by_cases a0 : s.hi = 0 ∧ s.lo = 0
    · exact .inl a0
    refine .inr ⟨by omega, ?_⟩
    by_cases a1 : s.id = 0
    · exact .inl a1
    refine .inr ⟨a1, ?_⟩
    cases a2 : nameB s.service with
    | false => exact .inl rfl
    | true =>
    refine .inr ⟨rfl, ?_⟩
    cases a3 : nameB s.name with
    | false => exact .inl rfl
    | true =>
    refine .inr ⟨rfl, ?_⟩
    by_cases a4 : 0 ≤ s.kind
    case neg => exact .inl (by simpa using a4)
    refine .inr ⟨a4, ?_⟩
    by_cases a5 : s.kind ≤ 5
    case neg => exact .inl (by simpa using a5)
    refine .inr ⟨a5, ?_⟩
    by_cases a6 : 0 ≤ s.start
    case neg => exact .inl (by simpa using a6)
    refine .inr ⟨a6, ?_⟩
    by_cases a7 : 0 ≤ s.length
    case neg => exact .inl (by simpa using a7)
    refine .inr ⟨a7, ?_⟩
    by_cases a8 : s.start ≤ 4611686018427387903
    case neg => exact .inl (by simpa using a8)
    refine .inr ⟨a8, ?_⟩
    by_cases a9 : s.length ≤ 4611686018427387903 - s.start
    case neg => simpa using a9
    have : headB s = true := by
      simp only [headB, a2, a3, Bool.and_eq_true, Bool.or_eq_true, decide_eq_true_eq, ne_eq]
      exact ⟨⟨⟨⟨⟨⟨⟨⟨⟨by omega, a1⟩, trivial⟩, trivial⟩, a4⟩, a5⟩, a6⟩, a7⟩, a8⟩, a9⟩
    rw [hhead] at this
    cases this
  have HCASE := Lib.hid hcase
  clear hcase hhead
  go_enter Try.func14, Try.ntmps14
  go_wp2_with fail
  rw [HW.out]
  refine HC.out.mono ?_
  rintro e w2 ⟨rfl, hb2⟩
  have hs2 := hb2.size
  have hb02 := hb0.trans (hb2.mono (by omega))
  have hf2 := (Rd.below hf1 (hb2.mono (by omega))).more (show B ≤ w2.heap.size by omega)
  have bk2 := bk.below hb2 (by omega)
  obtain ⟨g, hg⟩ : ∃ g, w.heap.size = g := ⟨_, rfl⟩
  rw [hg] at bk2 ⊢
  have k0 : w2.cell? ⟨g, 0, none⟩ = some (.int .u64 s.hi) := bk2.cell 0
  have k1 : w2.cell? ⟨g, 1, none⟩ = some (.int .u64 s.lo) := bk2.cell 1
  have k2 : w2.cell? ⟨g, 2, none⟩ = some (.int .u64 s.id) := bk2.cell 2
  have k4 : w2.cell? ⟨g, 4, none⟩ = some (.string s.service) := bk2.cell 4
  have k5 : w2.cell? ⟨g, 5, none⟩ = some (.string s.name) := bk2.cell 5
  have k6 : w2.cell? ⟨g, 6, none⟩ = some (.int .i64 s.kind) := bk2.cell 6
  have k7 : w2.cell? ⟨g, 7, none⟩ = some (.int .i64 s.start) := bk2.cell 7
  have k8 : w2.cell? ⟨g, 8, none⟩ = some (.int .i64 s.length) := bk2.cell 8
  have k10 : w2.cell? ⟨g, 10, none⟩ = some (.slice A n c) := bk2.cell 10
  clear bk hf1 hb0 HW
  have HHS := Lib.hid hs2
  have HH1 := Lib.hid hs1
  have HHB := Lib.hid hB
  have HHG := Lib.hid hg
  have HB02 := Lib.hid hb02
  have HF2 := Lib.hid hf2
  have HBK := Lib.hid bk2
  clear hs2 hs1 hB hg hb02 hf2 bk2 hf hb2
  have hcase := HCASE.out
  clear HCASE
  rcases hcase with ⟨a0, a0'⟩ | ⟨a0, a1 | ⟨a1, a2 | ⟨a2, a3 | ⟨a3, a4 | ⟨a4, a5 | ⟨a5, a6 | ⟨a6, a7 | ⟨a7, a8 | ⟨a8, a9⟩⟩⟩⟩⟩⟩⟩⟩⟩
  all_goals first
    | (have d1 : ((s.id : Int) != 0) = true := by rw [bne_iff_ne]; omega)
    | (have d1 : ((s.id : Int) != 0) = false := by rw [a1]; rfl)
    | skip
  all_goals go_wp2_with (first
    | (go_at_call 50; refine (spName _ _).mono ?_; rintro e w' ⟨rfl, hw⟩; rw [hw]; clear hw w'; first | rw [a2] | rw [a3]))
  all_goals
    go_loopw [3, 63] (fun fv iv_ wr => ∃ j : Nat, j ≤ n ∧ iv_ = .int .i64 j ∧ fv = .bool false ∧ Below w2.heap.size w2 wr) (fun _ i _ => n - (intOf i).toNat)
    case atStart => exact ⟨0, by omega, rfl, rfl, Below.refl _ _⟩
    case round =>
      obtain ⟨j, hj, rfl, rfl, hb⟩ := hrel
      have hgl : g < w2.heap.size := by have := HHG.out; have := HHS.out; have := HH1.out; omega
      by_cases hlt : j < n
      · have hlt' : (j : Int) < (n : Int) := by omega
        obtain ⟨x, hx⟩ : ∃ x, s.tags[j]? = some x := ⟨_, List.getElem?_eq_getElem (by rw [HN.out]; exact hlt)⟩
        have hRb : Rd wr w2.heap.size A (tgs s.tags) := (Rd.more HF2.out (Nat.le_refl _)).below hb
        obtain ⟨b, o, rfl, hbb, c1, c2⟩ := RbT.get hRb hx
        have k10' : wr.cell? ⟨g, 10, none⟩ = some (.slice (some ⟨b, o, none⟩) n c) := (hb.cell (p := ⟨g, 10, none⟩) hgl).trans k10
        have HX := Lib.hid hx
        clear hx
        go_wp2_with fail
        have hbW := hb.alloc hb.size (.cells #[.string x.key, .string x.val] 42)
        obtain ⟨W, hW⟩ : ∃ W, wr.alloc (.cells #[.string x.key, .string x.val] 42) = W := ⟨_, rfl⟩
        rw [hW] at hbW ⊢
        have HBW := Lib.hid hbW
        clear hW hbW hRb hb hgl c1 c2 k10'
        go_quiet (fail)
        go_wp2
        go_roundw
        case rel => exact ⟨j + 1, by omega, by go_num, rfl, below_drewN HBW.out _⟩
        case measure => simp [intOf]; omega
      · have hlt' : decide ((j : Int) < (n : Int)) = false := by simp; omega
        go_wp2
        go_ret
        exact ⟨rfl, HB02.out.trans (hb.mono (by have := HHS.out; have := HH1.out; omega))⟩

set_option maxHeartbeats 400000 in
/-- Check of any span. -/
theorem spCheck {A : Option Addr} {c n B : Nat} (s : Sp) (w : World) (hf : RbT w B A s.tags) (hn : s.tags.length = n) (hB : B ≤ w.heap.size) (hnl : n ≤ 9223372036854775807) :
    Calls Try.prog 14 #[spV s A n c] w fun e w' => e = .returned (.int .i64 (spChk s)) ∧ Below w.heap.size w w' := by
  cases hl : longB s with
  | true =>
    have hr : spChk s = 3 := by rw [spChk, if_pos hl]
    rw [hr]
    have hf1 := Rd.alloc hf hB (.cells (spC s A n c) 27)
    have hb0 : Below w.heap.size w (w.alloc (.cells (spC s A n c) 27)) := (Below.refl _ w).alloc (Nat.le_refl _) _
    have hc := spLong (c := c) s _ hf1 hn (by simp; omega) hnl
    rw [hl] at hc
    have HC := Lib.hid hc
    clear hc hl
    go_enter Try.func14, Try.ntmps14
    go_wp2_with fail
    refine HC.out.mono ?_
    rintro e w2 ⟨rfl, hb2⟩
    go_wp2
    go_ret
    exact ⟨rfl, hb0.trans (hb2.mono (by simp))⟩
  | false =>
    cases hh : headB s with
    | false =>
      have hr : spChk s = 2 := by rw [spChk, hl, hh]; rfl
      rw [hr]
      exact spCheck0 s w hf hn hB hnl hl hh
    | true =>
      have hr : spChk s = if tagsOk s.tags n = true then 0 else 2 := by rw [spChk, hl, hh, hn]; rfl
      rw [hr]
      exact spCheck1 s w hf hn hB hnl hl hh
end Go.Proofs.Ytohnpogoldbplaa

/- Spans: Parse: what it computes, its memory. -/
namespace Go.Proofs.Ytohnpogoldbplaa
open Go.RowKit

/-- What Parse has read ahead of the tags: the span without them, their number, the reader. -/
def prHead (zs : List Int) : Sp × Nat × RS :=
  let a := rEight zs ⟨0, 0, false⟩
  let b := rEight zs a.2
  let c := rEight zs b.2
  let d := rEight zs c.2
  let e := rText zs d.2
  let f := rText zs e.2
  let k := rOne 255 zs f.2
  let st := rShort 4611686018427387903 zs k.2
  let ln := rShort 4611686018427387903 zs st.2
  let fl := rOne 1 zs ln.2
  let n := rShort 16 zs fl.2
  (⟨a.1, b.1, c.1, d.1, e.1, f.1, k.1, st.1, ln.1, fl.1 == 1, []⟩, n.1, n.2)
def prTags (zs : List Int) : Nat → List Tg → RS → List Tg × RS
  | 0, acc, s => (acc, s)
  | n + 1, acc, s => prTags zs n (acc ++ [⟨(rText zs s).1, (rText zs (rText zs s).2).1⟩]) (rText zs (rText zs s).2).2
/-- The span that was read, and the reader behind it. -/
def prAll (zs : List Int) : Sp × RS := ({ (prHead zs).1 with tags := (prTags zs (prHead zs).2.1 [] (prHead zs).2.2).1 }, (prTags zs (prHead zs).2.1 [] (prHead zs).2.2).2)
def prErrOf (zs : List Int) (s : Sp) (r : RS) : Nat :=
  if r.e ≠ 0 then r.e else if r.bad = true then 4 else if r.p < zs.length then 4 else spChk s
/-- What Parse tells. -/
def prErr (zs : List Int) : Nat := prErrOf zs (prAll zs).1 (prAll zs).2
def zeroSp : Sp := ⟨0, 0, 0, 0, ⟨#[]⟩, ⟨#[]⟩, 0, 0, 0, false, []⟩
/-- A zero span's cells. -/
abbrev zspC : Array Value := #[.int .u64 0, .int .u64 0, .int .u64 0, .int .u64 0, .string ⟨#[]⟩, .string ⟨#[]⟩, .int .i64 0, .int .i64 0, .int .i64 0, .bool false, .slice none 0 0]
def prSp (zs : List Int) : Sp := if prErr zs = 0 then (prAll zs).1 else zeroSp

theorem tginfo : (Try.prog.info? 42).map (fun i => (i.zero, i.size, i.bytes)) = some (some (.agg #[.string ⟨#[]⟩, .string ⟨#[]⟩]), 2, 32) := by kernel_rfl
/-- append of tags. -/
theorem wp_appT (w : World) {o : Oper} {a : Act} {K : Act → World → Prop} {Q : Exit → Act → World → Prop} (s x : Operand)
    (ho : o.op = .call { callee := .builtin .append, args := #[s, x], argTypes := #[25, 25] })
    (base : Nat) (v : Value) (n : Nat) (l : List Tg) (hs : a.eval s = v) (hown : w.ownsRow base 42 2 v n (tgs l))
    (B : Nat) (A : Option Addr) (m c : Nat) (news : List Tg) (hx : a.eval x = .slice A m c) (hl : news.length = m) (hr : RbT w B A news)
    (hbytes : n + m ≤ 4398046511104) (hbase : base ≤ w.heap.size)
    (h : ∀ A' c' w', App base 42 2 w v w' (.slice A' (n + m) c') (n + m) (tgs (l ++ news)) → (A' = none → v = .slice none 0 0 ∧ m = 0) → K (a.put o.dst (.slice A' (n + m) c')) w') :
    o.wp Try.prog a w K Q := by
  obtain ⟨i0, hi0, hz0, hz1, hz2⟩ := info_parts tginfo
  refine wp_app w s x _ ho base 42 i0 _ 2 32 Try.underlying25 hi0 hz0 hz1 hz2 rfl (by omega) v n (tgs l) hs hown B A m c (tgs news) hx (by rw [tgs_length, hl]) hr (tgs_one news) (by simp only [maxLen]; omega) (by omega) hbase ?_
  intro A' c' w' h1 h2 h3 h4
  rw [← tgs_append] at h1
  exact h A' c' w' ((App.refl hown).step h1 h2 h3) h4
theorem step_appT {w : World} {ops : Array Oper} {o : Oper} {a : Act} {K : Act → World → Prop} {Q : Exit → Act → World → Prop} {E : Prop} (hgd : o.guard = none) (s x : Operand)
    (ho : o.op = .call { callee := .builtin .append, args := #[s, x], argTypes := #[25, 25] })
    (base : Nat) (v : Value) (n : Nat) (l : List Tg) (hs : a.eval s = v) (hown : w.ownsRow base 42 2 v n (tgs l))
    (B : Nat) (A : Option Addr) (m c : Nat) (news : List Tg) (hx : a.eval x = .slice A m c) (hl : news.length = m) (hr : RbT w B A news)
    (hbytes : n + m ≤ 4398046511104) (hbase : base ≤ w.heap.size)
    (h : ∀ A' c' w', App base 42 2 w v w' (.slice A' (n + m) c') (n + m) (tgs (l ++ news)) → (A' = none → v = .slice none 0 0 ∧ m = 0) → K (a.put o.dst (.slice A' (n + m) c')) w') :
    if Region.wanted o (yielded ops a.tmps) = true then Oper.wp Try.prog o a w K Q else E := by
  have hw : Region.wanted o (yielded ops a.tmps) = true := by simp [Region.wanted, hgd]
  rw [if_pos hw]
  exact wp_appT w s x ho base v n l hs hown B A m c news hx hl hr hbytes hbase h

/-- 'append', shut: what a walk through a drawn region is told of it by an equation. -/
def appK (ts : Array TypeId) (ty : TypeId) (vs : Array Value) : Sem Value := Builtin.append_ ts ty vs
theorem appK_shut (ts : Array TypeId) (ty : TypeId) (vs : Array Value) : Builtin.append_ ts ty vs = appK ts ty vs := rfl
theorem run_appT (w : World) (base : Nat) (v : Value) (n : Nat) (l : List Tg) (hown : w.ownsRow base 42 2 v n (tgs l))
    (B : Nat) (A : Option Addr) (m c : Nat) (news : List Tg) (hl : news.length = m) (hr : RbT w B A news) (hbytes : n + m ≤ 4398046511104) (hbase : base ≤ w.heap.size) :
    ∃ A' c' w', (appK #[25, 25] 25 #[v, .slice A m c]).run Try.prog w = .ok (.slice A' (n + m) c') w' ∧ App base 42 2 w v w' (.slice A' (n + m) c') (n + m) (tgs (l ++ news)) := by
  obtain ⟨i0, hi0, hz0, hz1, hz2⟩ := info_parts tginfo
  obtain ⟨v', w', hrun, h2, h3, h4, ⟨A', c', rfl⟩, h6⟩ := run_app (P := Try.prog) w base 25 25 42 i0 _ 2 32 Try.underlying25 hi0 hz0 hz1 hz2 rfl (by omega) v n (tgs l) hown B A m c (tgs news) (by rw [tgs_length, hl]) hr (tgs_one news) (by simp only [maxLen]; omega) (by omega) hbase
  rw [← tgs_append] at h2
  exact ⟨A', c', w', hrun, (App.refl hown).step h2 h3 h4⟩

theorem results_cell_row_tmp {P : Program} {fn : Func} {p u : Tmp} {ty : TypeId} (h : fn.results = #[.cell p ty, .tmp u]) (tmps : Array Value) (w : World) (g : Nat) (t : TypeId) (cs : Array Value) (d : TypeDesc)
    (hp : tmps.getD p undef = .pointer (some ⟨g, 0, none⟩)) (hg : Bk w g t cs)
    (hu : P.underlying ty = some d) (hd : (match d with | .struct _ | .array _ _ => true | _ => false) = true) (hi : (P.info? ty).map (·.size) = some cs.size) :
    (results fn tmps).run P w = .ok (.tuple #[.agg cs, tmps.getD u undef]) w := by
  rw [results_cell_tmp h, hp]
  simp [asAddr, Result.andThen, run_loadVar_row w g t ty cs (0, 0) d hg hu hd hi]
theorem spC_one (s : Sp) (A : Option Addr) (n c : Nat) : (spC s A n c).all (·.oneCell') = true := by simp [Value.oneCell']
theorem zspC_one : zspC.all (·.oneCell') = true := by simp [Value.oneCell']
/-- Parse's memory: the reader, the span it fills, the result, the tags. -/
structure PS (w0 W : World) (h g sb rb lo : Nat) (A : Option Addr) (c : Nat) (zs : List Int) (st : RS) (cells : Array Value) (At : Option Addr) (nt ct : Nat) (acc : List Tg) : Prop where
  rd : SRd W h g A c zs st
  sp : Bk W sb 27 cells
  rs : Bk W rb 27 zspC
  own : W.ownsRow lo 42 2 (.slice At nt ct) nt (tgs acc)
  len : acc.length = nt
  bel : Below w0.heap.size w0 W
  hlo : lo ≤ W.heap.size
  hg : w0.heap.size ≤ g ∧ g < lo
  hh : w0.heap.size ≤ h ∧ h < lo
  hs : w0.heap.size ≤ sb ∧ sb < lo
  hr : w0.heap.size ≤ rb ∧ rb < lo
  ne : sb ≠ g ∧ sb ≠ h ∧ rb ≠ g ∧ rb ≠ h ∧ rb ≠ sb
  hA : ∀ a, A = some a → a.block < lo ∧ a.block ≠ sb
section
variable {w0 W W' : World} {h g sb rb lo : Nat} {A : Option Addr} {c : Nat} {zs : List Int} {st st' : RS} {cells : Array Value} {At : Option Addr} {nt ct : Nat} {acc : List Tg}
theorem PS.call (p : PS w0 W h g sb rb lo A c zs st cells At nt ct acc) (hR : SRd W' h g A c zs st') (ho : Only2 W W' g h) : PS w0 W' h g sb rb lo A c zs st' cells At nt ct acc := by
  have hg1 := p.hg
  have hh1 := p.hh
  have hown : ∀ k, (Value.slice At nt ct).ownBlock = some k → k ≠ g ∧ k ≠ h := fun k hk => by
    have := (p.own.lt k hk).1
    omega
  refine ⟨hR, ho.bk p.sp p.ne.1 p.ne.2.1, ho.bk p.rs p.ne.2.2.1 p.ne.2.2.2.1, ?_, p.len, ?_, Nat.le_trans p.hlo ho.size, p.hg, p.hh, p.hs, p.hr, p.ne, p.hA⟩
  · refine ⟨p.own.1, p.own.2.imp id ?_⟩
    rintro ⟨k, cap, cur, hv, hk, r⟩
    obtain ⟨k1, k2⟩ := hown k (by rw [hv]; rfl)
    have hlt := (p.own.lt k (by rw [hv]; rfl)).2
    exact ⟨k, cap, cur, hv, hk, (ho.block k hlt k1 k2).trans r.1, r.2⟩
  · exact p.bel.trans (ho.below p.bel.size hg1.1 hh1.1)
theorem PS.store (p : PS w0 W h g sb rb lo A c zs st cells At nt ct acc) (o : Nat) (u : Value) : PS w0 (W.setCell ⟨sb, o, none⟩ u) h g sb rb lo A c zs st (cells.setIfInBounds o u) At nt ct acc := by
  have hst : W.grownBy (W.setCell ⟨sb, o, none⟩ u) (some sb) := only_set (World.grownBy.refl _ _) _ _
  have e0 := p.hs
  refine ⟨p.rd.keep hst (fun e => p.ne.1 (by injection e)) (fun e => p.ne.2.1 (by injection e)) (fun a ha e => (p.hA a ha).2 (by injection e with e; exact e.symm)), p.sp.set o u, p.rs.far (fun e => p.ne.2.2.2.2 e) u,
    p.own.kept hst (.inr fun e => by have := (p.own.lt sb e).1; omega), p.len, ?_, by simpa [World.setCell] using p.hlo, p.hg, p.hh, p.hs, p.hr, p.ne, p.hA⟩
  exact p.bel.trans ⟨hst.os, hst.tape, hst.output, hst.size, fun q hq => hst.block q (by have := p.bel.size; omega) (fun e => by injection e with e; omega)⟩
theorem PS.below (p : PS w0 W h g sb rb lo A c zs st cells At nt ct acc) (hb : Below W.heap.size W W') : PS w0 W' h g sb rb lo A c zs st cells At nt ct acc :=
  p.call (p.rd.below hb) ⟨hb.os, hb.tape, hb.output, hb.size, fun i hi _ _ => hb.block i hi⟩
theorem PS.facts (p : PS w0 W h g sb rb lo A c zs st cells At nt ct acc) (i : Nat) : W.cell? ⟨sb, i, none⟩ = cells[i]? ∧ W.frozen? ⟨sb, i, none⟩ = false := ⟨p.sp.cell i, p.sp.frozen i⟩
/-- A tag more. -/
theorem PS.app {At' : Option Addr} {ct' : Nat} {t : Tg} (p : PS w0 W h g sb rb lo A c zs st cells At nt ct acc) (k : App lo 42 2 W (.slice At nt ct) W' (.slice At' (nt + 1) ct') (nt + 1) (tgs (acc ++ [t]))) :
    PS w0 W' h g sb rb lo A c zs st cells At' (nt + 1) ct' (acc ++ [t]) := by
  have hown : ∀ q, (Value.slice At nt ct).ownBlock = some q → lo ≤ q := fun q hq => (p.own.lt q hq).1
  have hg := k.grown
  have e0 := p.hg
  have e1 := p.hh
  have e2 := p.hs
  have e3 := p.hr
  refine ⟨p.rd.keep hg (fun e => by have := hown g e; omega) (fun e => by have := hown h e; omega) (fun a ha e => by have := hown _ e; have := (p.hA a ha).1; omega), p.sp.grown hg (fun e => by have := hown sb e.symm; omega), p.rs.grown hg (fun e => by have := hown rb e.symm; omega), k.own, by simp [p.len], ?_, Nat.le_trans p.hlo hg.size, p.hg, p.hh, p.hs, p.hr, p.ne, p.hA⟩
  exact p.bel.trans (k.below (B := w0.heap.size) (by have := p.bel.size; omega) (fun q hq => by have := hown q hq; omega))
theorem PS.drew (p : PS w0 W h g sb rb lo A c zs st cells At nt ct acc) : PS w0 W.drew h g sb rb lo A c zs st cells At nt ct acc := p.below (below_drewN (Below.refl _ W) 1)
end

/-! The reader's methods, by what they give. -/
section
variable {A : Option Addr} {c h g : Nat} {zs : List Int} {s s' : RS}
theorem spEight' {v : Nat} (w : World) (x : SRd w h g A c zs s) (he : rEight zs s = (v, s')) : Calls Try.prog 42 #[.pointer (some ⟨h, 0, none⟩)] w (RPost (.int .u64 v) w h g A c zs s') := by
  have := spEight w x
  rwa [he] at this
theorem spRText' {v : ByteArray} (w : World) (x : SRd w h g A c zs s) (he : rText zs s = (v, s')) : Calls Try.prog 43 #[.pointer (some ⟨h, 0, none⟩)] w (RPost (.string v) w h g A c zs s') := by
  have := spRText w x
  rwa [he] at this
theorem spOne' {most v : Int} (w : World) (x : SRd w h g A c zs s) (he : rOne most zs s = (v, s')) : Calls Try.prog 44 #[.pointer (some ⟨h, 0, none⟩), .int .u8 most] w (RPost (.int .u8 v) w h g A c zs s') := by
  have := spOne most w x
  rwa [he] at this
theorem spShort' {most v : Nat} {m : Int} (hme : m = most) (hm : most ≤ 4611686018427387903) (w : World) (x : SRd w h g A c zs s) (he : rShort most zs s = (v, s')) : Calls Try.prog 45 #[.pointer (some ⟨h, 0, none⟩), .int .u64 m] w (RPost (.int .i64 v) w h g A c zs s') := by
  subst hme
  have := spShort most hm w x
  rwa [he] at this
end
theorem rShort_le {most : Nat} {zs : List Int} {s : RS} : (rShort most zs s).1 ≤ most := by
  unfold rShort
  split
  · simp
  · split
    · simp
    · simp only; omega
theorem rOne_rng {most : Int} {zs : List Int} (hz : Byt zs) (s : RS) : 0 ≤ (rOne most zs s).1 ∧ (rOne most zs s).1 ≤ 255 := by
  unfold rOne
  split
  · simp
  · have hb := rdFix_byt hz s.p s.e 1
    split
    · rename_i x hx
      rw [hx] at hb
      exact hb x (by simp)
    · simp
end Go.Proofs.Ytohnpogoldbplaa

/- Spans: Parse. -/
namespace Go.Proofs.Ytohnpogoldbplaa
open Go.RowKit
attribute [local go_sem ↓] appK_shut

theorem Bk.row {w : World} {g : Nat} {t : TypeId} {old : Array Value} (h : Bk w g t old) (cs : Array Value) : Bk (w.setRow g cs) g t cs := setRow_heap w g old cs t (0, 0) h
theorem only_row {w : World} (g : Nat) (cs : Array Value) : w.grownBy (w.setRow g cs) (some g) :=
  ⟨rfl, rfl, rfl, by simp [World.setRow], fun i hi hne => by simp [World.setRow, Array.getElem?_modify]; intro e; subst e; exact absurd rfl hne⟩
def ParsePost (w : World) (zs : List Int) (e : Ending) (w' : World) : Prop :=
  ∃ At ct, e = .returned (.tuple #[spV (prSp zs) At (prSp zs).tags.length ct, .int .i64 (prErr zs)]) ∧ RbT w' w'.heap.size At (prSp zs).tags ∧ Below w.heap.size w w' ∧ (prSp zs).tags.length ≤ ct ∧ (∀ a, At = some a → w.heap.size ≤ a.block)
theorem parsePost_bad {w W : World} {rb k : Nat} {zs : List Int} {e : Ending} (he : prErr zs = k) (hk : k ≠ 0) (hb : Below w.heap.size w W) (hrb : w.heap.size ≤ rb) (hr : e = .returned (.tuple #[.agg zspC, .int .i64 k])) :
    ParsePost w zs e (W.setRow rb zspC) := by
  have hs : prSp zs = zeroSp := by rw [prSp, if_neg (by omega)]
  have h1 := only_row (w := W) rb zspC
  rw [ParsePost, hs, he]
  exact ⟨none, 0, hr, Rd.nil, hb.trans ⟨h1.os, h1.tape, h1.output, h1.size, fun k hk => h1.block k (by have := hb.size; omega) (fun e => by injection e; omega)⟩, Nat.le_refl _, fun a ha => by cases ha⟩
theorem PS.good {w W : World} {h g sb rb lo : Nat} {A : Option Addr} {c : Nat} {zs : List Int} {st : RS} {s : Sp} {At : Option Addr} {i ct : Nat} {acc : List Tg} (q : PS w W h g sb rb lo A c zs st (spC s At i ct) At i ct acc)
    (he : prErr zs = 0) (ha : prAll zs = (s, st)) (hl : s.tags.length = i) (ht : s.tags = acc) (hrb : w.heap.size = rb) :
    ParsePost w zs (.returned (.tuple #[.agg (spC s At i ct), .int .i64 0])) (W.setRow rb (spC s At i ct)) := by
  have hs : prSp zs = s := by rw [prSp, if_pos he, ha]
  have h1 := only_row (w := W) rb (spC s At i ct)
  have e0 := q.hr
  have hown := q.own.kept h1 (.inr fun e => by have := (q.own.lt rb e).1; omega)
  rw [ParsePost, hs, he, hl]
  refine ⟨At, ct, rfl, by rw [ht]; exact Rd.of_own hown, q.bel.trans ⟨h1.os, h1.tape, h1.output, h1.size, fun k hk => h1.block k (by have := q.bel.size; omega) (fun e => by injection e; omega)⟩, ?_, fun a ha => ?_⟩
  · rcases q.own.2 with ⟨h1, h2⟩ | ⟨_, _, _, h1, _, _, h2, _⟩
    · omega
    · injection h1 with _ _ h3; omega
  · subst ha
    have := (q.own.lt a.block rfl).1
    have := q.hs
    omega
set_option maxRecDepth 100000 in
set_option maxHeartbeats 8000000 in
theorem spParse {A0 : Option Addr} {c0 B n : Nat} {zs : List Int} (w : World) (ha : Rb w B A0 zs) (hB : B ≤ w.heap.size) (hz : Byt zs) (hl : zs.length ≤ 140737488351232) (hc : A0 = none → zs = [] ∧ c0 = 0) (hn : zs.length = n) :
    Calls Try.prog 10 #[.slice A0 n c0] w (ParsePost w zs) := by
  obtain ⟨sp, nt, r0, hp⟩ : ∃ sp nt r0, prHead zs = (sp, nt, r0) := ⟨_, _, _, rfl⟩
  have hnt : nt ≤ 16 := by
    have h := congrArg (fun x => x.2.1) hp
    simp only [prHead] at h
    rw [← h]
    exact rShort_le
  have hall : prAll zs = ({ sp with tags := (prTags zs nt [] r0).1 }, (prTags zs nt [] r0).2) := by rw [prAll, hp]
  unfold prHead at hp
  obtain ⟨x1, s1, h1⟩ : ∃ x s, rEight zs ⟨0, 0, false⟩ = (x, s) := ⟨_, _, rfl⟩
  obtain ⟨x2, s2, h2⟩ : ∃ x s, rEight zs s1 = (x, s) := ⟨_, _, rfl⟩
  obtain ⟨x3, s3, h3⟩ : ∃ x s, rEight zs s2 = (x, s) := ⟨_, _, rfl⟩
  obtain ⟨x4, s4, h4⟩ : ∃ x s, rEight zs s3 = (x, s) := ⟨_, _, rfl⟩
  obtain ⟨t5, s5, h5⟩ : ∃ x s, rText zs s4 = (x, s) := ⟨_, _, rfl⟩
  obtain ⟨t6, s6, h6⟩ : ∃ x s, rText zs s5 = (x, s) := ⟨_, _, rfl⟩
  obtain ⟨x7, s7, h7⟩ : ∃ x s, rOne 255 zs s6 = (x, s) := ⟨_, _, rfl⟩
  obtain ⟨x8, s8, h8⟩ : ∃ x s, rShort 4611686018427387903 zs s7 = (x, s) := ⟨_, _, rfl⟩
  obtain ⟨x9, s9, h9⟩ : ∃ x s, rShort 4611686018427387903 zs s8 = (x, s) := ⟨_, _, rfl⟩
  obtain ⟨x10, s10, h10⟩ : ∃ x s, rOne 1 zs s9 = (x, s) := ⟨_, _, rfl⟩
  obtain ⟨x11, s11, h11⟩ : ∃ x s, rShort 16 zs s10 = (x, s) := ⟨_, _, rfl⟩
  have b7 := rOne_rng (most := 255) hz s6
  rw [h7] at b7
  have b10 := rOne_rng (most := 1) hz s9
  rw [h10] at b10
  simp only [h1, h2, h3, h4, h5, h6, h7, h8, h9, h10, h11] at hp b7 b10
  simp only [Prod.mk.injEq] at hp
  obtain ⟨hsp, hnt', hr0⟩ := hp
  subst hnt' hr0
  have H1 := Lib.hid h1
  have H2 := Lib.hid h2
  have H3 := Lib.hid h3
  have H4 := Lib.hid h4
  have H5 := Lib.hid h5
  have H6 := Lib.hid h6
  have H7 := Lib.hid h7
  have H8 := Lib.hid h8
  have H9 := Lib.hid h9
  have H10 := Lib.hid h10
  have H11 := Lib.hid h11
  have HSP := Lib.hid hsp
  have HALL := Lib.hid hall
  clear h1 h2 h3 h4 h5 h6 h7 h8 h9 h10 h11 hsp hall
  have hb0 : Below w.heap.size w (w.alloc (.cells zspC 27)) := (Below.refl _ w).alloc (Nat.le_refl _) _
  have hs0 : (w.alloc (.cells zspC 27)).heap.size = w.heap.size + 1 := by simp
  have ha0 := Rd.alloc ha hB (.cells zspC 27)
  have bk0 := Bk.new w 27 zspC
  go_enter Try.func10, Try.ntmps10
  go_wp2_with fail
  obtain ⟨w1, hw1⟩ : ∃ w1, w.alloc (.cells zspC 27) = w1 := ⟨_, rfl⟩
  rw [hw1]
  rw [hw1] at hb0 hs0 ha0 bk0
  clear hw1
  have HN := Lib.hid hn
  refine (rdrNewB w1 ha0 (by omega) hz hl hc hn).mono ?_
  rintro e w2 ⟨g, A, c, rfl, hR, hb2, hg2, hA2⟩
  have hs2 := hb2.size
  have hgl := hR.blk.lt
  have bk2 := bk0.below hb2 (by omega)
  have hb3 : Below w2.heap.size w2 ((w2.alloc (.cells #[.pointer (some ⟨g, 0, none⟩), .bool false] 68)).alloc (.cells zspC 27)) := ((Below.refl _ w2).alloc (Nat.le_refl _) _).alloc (by simp) _
  have ps : PS w ((w2.alloc (.cells #[.pointer (some ⟨g, 0, none⟩), .bool false] 68)).alloc (.cells zspC 27)) w2.heap.size g (w2.heap.size + 1) w.heap.size (w2.heap.size + 2) A c zs ⟨0, 0, false⟩ zspC none 0 0 [] := by
    refine ⟨⟨(Bk.new w2 _ _).alloc _, hR.below hb3, by omega, fun a ha => by have := (hA2 a ha).2; omega, by simp⟩, ?_, bk2.below hb3 (by omega), World.ownsRow_nil _ _ _ _, rfl, (hb0.trans (hb2.mono (by omega))).trans (hb3.mono (by omega)), by simp, by omega, by omega, by omega, by omega, by omega, fun a ha => by have := hA2 a ha; omega⟩
    have h := Bk.new (w2.alloc (.cells #[.pointer (some ⟨g, 0, none⟩), .bool false] 68)) 27 zspC
    simpa using h
  go_wp2_with fail
  obtain ⟨W, hW⟩ : ∃ W, ((w2.alloc (.cells #[.pointer (some ⟨g, 0, none⟩), .bool false] 68)).alloc (.cells zspC 27)) = W := ⟨_, rfl⟩
  rw [hW] at ps ⊢
  obtain ⟨h, hh⟩ : ∃ h, w2.heap.size = h := ⟨_, rfl⟩
  obtain ⟨sb, hsb⟩ : ∃ sb, h + 1 = sb := ⟨_, rfl⟩
  obtain ⟨lo, hlo⟩ : ∃ lo, h + 2 = lo := ⟨_, rfl⟩
  obtain ⟨rb, hrb⟩ : ∃ rb, w.heap.size = rb := ⟨_, rfl⟩
  rw [hh, hsb, hlo, hrb] at ps
  rw [hh, hsb, hrb]
  clear hW hh hsb hlo hb3 bk2 hR hb2 hg2 hA2 hs2 hgl bk0 ha0 hs0 hb0 ha w2
  have HRB := Lib.hid hrb
  clear hrb
  refine (spEight' W ps.rd H1.out).mono ?_
  rintro e V1 ⟨rfl, r1, o1⟩
  have ps1 := ps.call r1 o1
  clear ps r1 o1
  go_wp2_with fail
  refine (spEight' V1 ps1.rd H2.out).mono ?_
  rintro e V2 ⟨rfl, r2, o2⟩
  have ps2 := ps1.call r2 o2
  clear ps1 r2 o2
  have k0 : (V2).cell? ⟨sb, 0, none⟩ = some (.int .u64 0) := (ps2.facts 0).1
  have f0 : (V2).frozen? ⟨sb, 0, none⟩ = false := (ps2.facts 0).2
  have q0 : PS w ((V2).setCell ⟨sb, 0, none⟩ (.int .u64 x1)) h g sb rb lo A c zs s2 #[.int .u64 x1, .int .u64 0, .int .u64 0, .int .u64 0, .string ⟨#[]⟩, .string ⟨#[]⟩, .int .i64 0, .int .i64 0, .int .i64 0, .bool false, .slice none 0 0] none 0 0 [] := ps2.store 0 _
  have k1 : ((V2).setCell ⟨sb, 0, none⟩ (.int .u64 x1)).cell? ⟨sb, 1, none⟩ = some (.int .u64 0) := (q0.facts 1).1
  have f1 : ((V2).setCell ⟨sb, 0, none⟩ (.int .u64 x1)).frozen? ⟨sb, 1, none⟩ = false := (q0.facts 1).2
  have q1 : PS w (((V2).setCell ⟨sb, 0, none⟩ (.int .u64 x1)).setCell ⟨sb, 1, none⟩ (.int .u64 x2)) h g sb rb lo A c zs s2 #[.int .u64 x1, .int .u64 x2, .int .u64 0, .int .u64 0, .string ⟨#[]⟩, .string ⟨#[]⟩, .int .i64 0, .int .i64 0, .int .i64 0, .bool false, .slice none 0 0] none 0 0 [] := q0.store 1 _
  go_wp2_with fail
  obtain ⟨V3, hV⟩ : ∃ V, ((V2).setCell ⟨sb, 0, none⟩ (.int .u64 x1)).setCell ⟨sb, 1, none⟩ (.int .u64 x2) = V := ⟨_, rfl⟩
  rw [hV] at q1 ⊢
  clear hV k0 f0 k1 f1 q0 ps2
  have ps3 := q1
  clear q1
  refine (spEight' V3 ps3.rd H3.out).mono ?_
  rintro e V4 ⟨rfl, r4, o4⟩
  have ps4 := ps3.call r4 o4
  clear ps3 r4 o4
  go_wp2_with fail
  refine (spEight' V4 ps4.rd H4.out).mono ?_
  rintro e V5 ⟨rfl, r5, o5⟩
  have ps5 := ps4.call r5 o5
  clear ps4 r5 o5
  have k2 : (V5).cell? ⟨sb, 2, none⟩ = some (.int .u64 0) := (ps5.facts 2).1
  have f2 : (V5).frozen? ⟨sb, 2, none⟩ = false := (ps5.facts 2).2
  have q2 : PS w ((V5).setCell ⟨sb, 2, none⟩ (.int .u64 x3)) h g sb rb lo A c zs s4 #[.int .u64 x1, .int .u64 x2, .int .u64 x3, .int .u64 0, .string ⟨#[]⟩, .string ⟨#[]⟩, .int .i64 0, .int .i64 0, .int .i64 0, .bool false, .slice none 0 0] none 0 0 [] := ps5.store 2 _
  have k3 : ((V5).setCell ⟨sb, 2, none⟩ (.int .u64 x3)).cell? ⟨sb, 3, none⟩ = some (.int .u64 0) := (q2.facts 3).1
  have f3 : ((V5).setCell ⟨sb, 2, none⟩ (.int .u64 x3)).frozen? ⟨sb, 3, none⟩ = false := (q2.facts 3).2
  have q3 : PS w (((V5).setCell ⟨sb, 2, none⟩ (.int .u64 x3)).setCell ⟨sb, 3, none⟩ (.int .u64 x4)) h g sb rb lo A c zs s4 #[.int .u64 x1, .int .u64 x2, .int .u64 x3, .int .u64 x4, .string ⟨#[]⟩, .string ⟨#[]⟩, .int .i64 0, .int .i64 0, .int .i64 0, .bool false, .slice none 0 0] none 0 0 [] := q2.store 3 _
  go_wp2_with fail
  obtain ⟨V6, hV⟩ : ∃ V, ((V5).setCell ⟨sb, 2, none⟩ (.int .u64 x3)).setCell ⟨sb, 3, none⟩ (.int .u64 x4) = V := ⟨_, rfl⟩
  rw [hV] at q3 ⊢
  clear hV k2 f2 k3 f3 q2 ps5
  have ps6 := q3
  clear q3
  refine (spRText' V6 ps6.rd H5.out).mono ?_
  rintro e V7 ⟨rfl, r7, o7⟩
  have ps7 := ps6.call r7 o7
  clear ps6 r7 o7
  go_wp2_with fail
  refine (spRText' V7 ps7.rd H6.out).mono ?_
  rintro e V8 ⟨rfl, r8, o8⟩
  have ps8 := ps7.call r8 o8
  clear ps7 r8 o8
  have k4 : (V8).cell? ⟨sb, 4, none⟩ = some (.string ⟨#[]⟩) := (ps8.facts 4).1
  have f4 : (V8).frozen? ⟨sb, 4, none⟩ = false := (ps8.facts 4).2
  have q4 : PS w ((V8).setCell ⟨sb, 4, none⟩ (.string t5)) h g sb rb lo A c zs s6 #[.int .u64 x1, .int .u64 x2, .int .u64 x3, .int .u64 x4, .string t5, .string ⟨#[]⟩, .int .i64 0, .int .i64 0, .int .i64 0, .bool false, .slice none 0 0] none 0 0 [] := ps8.store 4 _
  have k5 : ((V8).setCell ⟨sb, 4, none⟩ (.string t5)).cell? ⟨sb, 5, none⟩ = some (.string ⟨#[]⟩) := (q4.facts 5).1
  have f5 : ((V8).setCell ⟨sb, 4, none⟩ (.string t5)).frozen? ⟨sb, 5, none⟩ = false := (q4.facts 5).2
  have q5 : PS w (((V8).setCell ⟨sb, 4, none⟩ (.string t5)).setCell ⟨sb, 5, none⟩ (.string t6)) h g sb rb lo A c zs s6 #[.int .u64 x1, .int .u64 x2, .int .u64 x3, .int .u64 x4, .string t5, .string t6, .int .i64 0, .int .i64 0, .int .i64 0, .bool false, .slice none 0 0] none 0 0 [] := q4.store 5 _
  go_wp2_with fail
  obtain ⟨V9, hV⟩ : ∃ V, ((V8).setCell ⟨sb, 4, none⟩ (.string t5)).setCell ⟨sb, 5, none⟩ (.string t6) = V := ⟨_, rfl⟩
  rw [hV] at q5 ⊢
  clear hV k4 f4 k5 f5 q4 ps8
  have ps9 := q5
  clear q5
  refine (spOne' V9 ps9.rd H7.out).mono ?_
  rintro e V10 ⟨rfl, r10, o10⟩
  have ps10 := ps9.call r10 o10
  clear ps9 r10 o10
  have k6 : (V10).cell? ⟨sb, 6, none⟩ = some (.int .i64 0) := (ps10.facts 6).1
  have f6 : (V10).frozen? ⟨sb, 6, none⟩ = false := (ps10.facts 6).2
  have q6 : PS w ((V10).setCell ⟨sb, 6, none⟩ (.int .i64 x7)) h g sb rb lo A c zs s7 #[.int .u64 x1, .int .u64 x2, .int .u64 x3, .int .u64 x4, .string t5, .string t6, .int .i64 x7, .int .i64 0, .int .i64 0, .bool false, .slice none 0 0] none 0 0 [] := ps10.store 6 _
  go_wp2_with fail
  obtain ⟨V11, hV⟩ : ∃ V, (V10).setCell ⟨sb, 6, none⟩ (.int .i64 x7) = V := ⟨_, rfl⟩
  rw [hV] at q6 ⊢
  clear hV k6 f6  ps10
  have ps11 := q6
  clear q6
  refine (spShort' (by rfl) (by omega) V11 ps11.rd H8.out).mono ?_
  rintro e V12 ⟨rfl, r12, o12⟩
  have ps12 := ps11.call r12 o12
  clear ps11 r12 o12
  go_wp2_with fail
  refine (spShort' (by rfl) (by omega) V12 ps12.rd H9.out).mono ?_
  rintro e V13 ⟨rfl, r13, o13⟩
  have ps13 := ps12.call r13 o13
  clear ps12 r13 o13
  have k7 : (V13).cell? ⟨sb, 7, none⟩ = some (.int .i64 0) := (ps13.facts 7).1
  have f7 : (V13).frozen? ⟨sb, 7, none⟩ = false := (ps13.facts 7).2
  have q7 : PS w ((V13).setCell ⟨sb, 7, none⟩ (.int .i64 x8)) h g sb rb lo A c zs s9 #[.int .u64 x1, .int .u64 x2, .int .u64 x3, .int .u64 x4, .string t5, .string t6, .int .i64 x7, .int .i64 x8, .int .i64 0, .bool false, .slice none 0 0] none 0 0 [] := ps13.store 7 _
  have k8 : ((V13).setCell ⟨sb, 7, none⟩ (.int .i64 x8)).cell? ⟨sb, 8, none⟩ = some (.int .i64 0) := (q7.facts 8).1
  have f8 : ((V13).setCell ⟨sb, 7, none⟩ (.int .i64 x8)).frozen? ⟨sb, 8, none⟩ = false := (q7.facts 8).2
  have q8 : PS w (((V13).setCell ⟨sb, 7, none⟩ (.int .i64 x8)).setCell ⟨sb, 8, none⟩ (.int .i64 x9)) h g sb rb lo A c zs s9 #[.int .u64 x1, .int .u64 x2, .int .u64 x3, .int .u64 x4, .string t5, .string t6, .int .i64 x7, .int .i64 x8, .int .i64 x9, .bool false, .slice none 0 0] none 0 0 [] := q7.store 8 _
  go_wp2_with fail
  obtain ⟨V14, hV⟩ : ∃ V, ((V13).setCell ⟨sb, 7, none⟩ (.int .i64 x8)).setCell ⟨sb, 8, none⟩ (.int .i64 x9) = V := ⟨_, rfl⟩
  rw [hV] at q8 ⊢
  clear hV k7 f7 k8 f8 q7 ps13
  have ps14 := q8
  clear q8
  refine (spOne' V14 ps14.rd H10.out).mono ?_
  rintro e V15 ⟨rfl, r15, o15⟩
  have ps15 := ps14.call r15 o15
  clear ps14 r15 o15
  have k9 : (V15).cell? ⟨sb, 9, none⟩ = some (.bool false) := (ps15.facts 9).1
  have f9 : (V15).frozen? ⟨sb, 9, none⟩ = false := (ps15.facts 9).2
  have q9 : PS w ((V15).setCell ⟨sb, 9, none⟩ (.bool (x10 == 1))) h g sb rb lo A c zs s10 #[.int .u64 x1, .int .u64 x2, .int .u64 x3, .int .u64 x4, .string t5, .string t6, .int .i64 x7, .int .i64 x8, .int .i64 x9, .bool (x10 == 1), .slice none 0 0] none 0 0 [] := ps15.store 9 _
  go_wp2_with fail
  obtain ⟨V16, hV⟩ : ∃ V, (V15).setCell ⟨sb, 9, none⟩ (.bool (x10 == 1)) = V := ⟨_, rfl⟩
  rw [hV] at q9 ⊢
  clear hV k9 f9  ps15
  have ps16 := q9
  clear q9
  refine (spShort' (by rfl) (by omega) V16 ps16.rd H11.out).mono ?_
  rintro e V17 ⟨rfl, r17, o17⟩
  have ps17 := ps16.call r17 o17
  clear ps16 r17 o17
  obtain ⟨fin, hfin⟩ : ∃ fin, prTags zs x11 [] s11 = fin := ⟨_, rfl⟩
  have HFIN := Lib.hid hfin
  clear hfin
  have p0 : PS w V17 h g sb rb lo A c zs s11 (spC sp none 0 0) none 0 0 [] := by rw [← HSP.out]; exact ps17
  clear ps17
  go_wp2_with fail
  go_loopw [47] (fun iv_ wr => ∃ (i : Nat) (acc : List Tg) (st : RS) (At : Option Addr) (ct : Nat), i ≤ x11 ∧ iv_ = .int .i64 i ∧ PS w wr h g sb rb lo A c zs st (spC sp At i ct) At i ct acc ∧ prTags zs (x11 - i) acc st = fin) (fun i _ => x11 - (intOf i).toNat)
  case atStart => exact ⟨0, [], s11, none, 0, by omega, rfl, p0, HFIN.out⟩
  case round =>
    obtain ⟨i, acc, st, At, ct, hi, rfl, p, htg⟩ := hrel
    clear p0
    have HTG := Lib.hid htg
    clear htg
    by_cases hlt : i < x11
    · have hlt' : (i : Int) < (x11 : Int) := by omega
      obtain ⟨u1, st1, e1⟩ : ∃ x s, rText zs st = (x, s) := ⟨_, _, rfl⟩
      obtain ⟨u2, st2, e2⟩ : ∃ x s, rText zs st1 = (x, s) := ⟨_, _, rfl⟩
      have hnext : prTags zs (x11 - (i + 1)) (acc ++ [⟨u1, u2⟩]) st2 = fin := by
        rw [← HTG.out, show x11 - i = (x11 - (i + 1)) + 1 from by omega, prTags, e1]
        simp only
        rw [e2]
      have E1 := Lib.hid e1
      have E2 := Lib.hid e2
      have HNX := Lib.hid hnext
      clear e1 e2 hnext
      have k10 : wr.cell? ⟨sb, 10, none⟩ = some (.slice At i ct) := (p.facts 10).1
      go_wp2_with fail
      have k10d : wr.drew.cell? ⟨sb, 10, none⟩ = some (.slice At i ct) := k10
      go_region_with
        (first
          | (go_at_call 43
             refine (spRText' _ p.drew.rd E1.out).mono ?_
             rintro e w5 ⟨rfl, r5, o5⟩
             have p5 := p.drew.call r5 o5
             have k10' : w5.cell? ⟨sb, 10, none⟩ = some (.slice At i ct) := (p5.facts 10).1)
          | (go_at_call 43
             refine (spRText' _ p5.rd E2.out).mono ?_
             rintro e w6 ⟨rfl, r6, o6⟩
             have p6 := p5.call r6 o6
             have k10b : w6.cell? ⟨sb, 10, none⟩ = some (.slice At i ct) := (p6.facts 10).1
             have p6a := p6.below ((Below.refl _ w6).alloc (Nat.le_refl _) (.cells #[.string u1, .string u2] 42))
             have k10e := (p6a.facts 10).1
             obtain ⟨A7, c7, w7, hrun, happ⟩ := run_appT _ lo (.slice At i ct) i acc p6a.own _ _ 1 1 [⟨u1, u2⟩] rfl (Rd.lit w6 _ _) (by omega) (by have := p6.hlo; simp; omega)
             have p7 := p6a.app happ
             have k10c : w7.cell? ⟨sb, 10, none⟩ = some (.slice At i ct) := (p7.facts 10).1
             have f10 : w7.frozen? ⟨sb, 10, none⟩ = false := (p7.facts 10).2)
          | fail)
      all_goals
        clear k10 k10d k10' k10b k10e hrun
        have p8 : PS w (w7.setCell ⟨sb, 10, none⟩ (.slice A7 (i + 1) c7)) h g sb rb lo A c zs st2 (spC sp A7 (i + 1) c7) A7 (i + 1) c7 (acc ++ [⟨u1, u2⟩]) := p7.store 10 _
        clear p7 happ k10c f10 p6a p6 p5 p
        go_wp2
        go_roundw
        case rel => exact ⟨i + 1, acc ++ [⟨u1, u2⟩], st2, A7, c7, by omega, by go_num, p8, HNX.out⟩
        case measure => simp [intOf]; omega
    · have hlt' : decide ((i : Int) < (x11 : Int)) = false := by simp; omega
      obtain rfl : i = x11 := by omega
      have hfin := HTG.out
      rw [Nat.sub_self, prTags] at hfin
      obtain ⟨s, hs⟩ : ∃ s : Sp, { sp with tags := acc } = s := ⟨_, rfl⟩
      have hall := HALL.out
      rw [HFIN.out, ← hfin] at hall
      simp only at hall
      rw [hs] at hall
      have herr : prErr zs = prErrOf zs s st := by rw [prErr, hall]
      have hst : s.tags = acc := by rw [← hs]
      have q : PS w wr h g sb rb lo A c zs st (spC s At i ct) At i ct acc := by rw [← hs]; exact p
      have hlen : s.tags.length = i := by rw [hst]; exact p.len
      clear p hs hfin
      have HERR := Lib.hid herr
      have HST := Lib.hid hst
      have HLEN := Lib.hid hlen
      have HAL := Lib.hid hall
      clear herr hst hlen hall HALL HFIN HTG HSP
      have c0 : wr.cell? ⟨h, 0, none⟩ = some (.pointer (some ⟨g, 0, none⟩)) := q.rd.blk.cell 0
      have c1 : wr.cell? ⟨h, 1, none⟩ = some (.bool st.bad) := q.rd.blk.cell 1
      have hE := Lib.hid (rdrErr wr q.rd.rdr)
      by_cases he : st.e = 0
      · have he1 : ((st.e : Int) == 0) = true := by rw [beq_iff_eq]; omega
        cases hbad : st.bad with
        | true =>
          rw [hbad] at c1
          have BKW := q.rs
          go_wp2_with (first
            | (go_at_call 46; refine hE.out.mono ?_; rintro en w' ⟨rfl, hw⟩; rw [hw]; clear hw w') | (refine wpList_store_row rfl 27 (.tmp 2) (.tmp 86) rfl rb zspC rfl rfl 27 zspC BKW (by rfl) rfl zspC_one ?_))
          try simp only [Exit.inBlock, Exit.then]
          refine bodyPost_ret (results_cell_row_tmp rfl _ _ rb 27 zspC _ rfl (BKW.row zspC) Try.underlying27 rfl (by rfl)) rfl ?_
          exact parsePost_bad (k := 4) (HERR.out.trans (by rw [prErrOf, if_neg (by omega), if_pos hbad])) (by omega) (q.bel) (q.hr.1) rfl
        | false =>
          rw [hbad] at c1
          have hEnd := Lib.hid (rdrEnd wr q.rd.rdr q.rd.err)
          by_cases hp : st.p < zs.length
          · rw [if_neg (by omega), if_pos hp] at hEnd
            have BKW := q.rs
            go_wp2_with (first
              | (go_at_call 46; refine hE.out.mono ?_; rintro en w' ⟨rfl, hw⟩; rw [hw]; clear hw w') | (go_at_call 47; refine hEnd.out.mono ?_; rintro en w' ⟨rfl, nd, hw⟩; rw [hw]; clear hw w') | (refine wpList_store_row rfl 27 (.tmp 2) (.tmp 86) rfl rb zspC rfl rfl 27 zspC BKW (by rfl) rfl zspC_one ?_))
            try simp only [Exit.inBlock, Exit.then]
            refine bodyPost_ret (results_cell_row_tmp rfl _ _ rb 27 zspC _ rfl (BKW.row zspC) Try.underlying27 rfl (by rfl)) rfl ?_
            exact parsePost_bad (k := 4) (HERR.out.trans (by rw [prErrOf, if_neg (by omega), if_neg (by rw [hbad]; simp), if_pos hp])) (by omega) (below_drewN q.bel _) (q.hr.1) rfl
          · rw [if_neg (by omega), if_neg hp] at hEnd
            have hchk := fun nd => Lib.hid (spCheck (c := ct) s (wr.drewN nd) (A := At) (n := i) (B := wr.heap.size) (by rw [HST.out]; exact Rd.drewN (Rd.of_own q.own) nd) HLEN.out (Nat.le_refl _) (by omega))
            obtain ⟨k, hk⟩ : ∃ k, spChk s = k := ⟨_, rfl⟩
            rw [hk] at hchk
            have hpe : prErr zs = k := HERR.out.trans (by rw [prErrOf, if_neg (by omega), if_neg (by rw [hbad]; simp), if_neg hp, hk])
            have HPE := Lib.hid hpe
            clear hk hpe
            have kb := fun nd => q.sp.drewN nd
            go_wp2_with (first
              | (go_at_call 46; refine hE.out.mono ?_; rintro en w' ⟨rfl, hw⟩; rw [hw]; clear hw w')
              | (go_at_call 47; refine hEnd.out.mono ?_; rintro en w' ⟨rfl, nd, hw⟩; rw [hw]; clear hw w')
              | (refine wpList_load_row rfl 27 (.tmp 5) rfl sb rfl 27 (spC s At i ct) (0, 0) _ (kb _) Try.underlying27 rfl (by rfl) ?_))
            refine (hchk _).out.mono ?_
            rintro en w9 ⟨rfl, hb9⟩
            have q9 := (q.below (below_drewN (Below.refl wr.heap.size wr) nd)).below hb9
            have BKW := q9.rs
            have BKS := q9.sp
            by_cases hk0 : k = 0
            · subst hk0
              go_wp2_with (first
                | (refine wpList_load_row rfl 27 (.tmp 5) rfl sb rfl 27 (spC s At i ct) (0, 0) _ BKS Try.underlying27 rfl (by rfl) ?_)
                | (refine wpList_store_row rfl 27 (.tmp 2) (.tmp 88) rfl rb (spC s At i ct) rfl rfl 27 zspC BKW (by rfl) rfl (spC_one _ _ _ _) ?_))
              try simp only [Exit.inBlock, Exit.then]
              refine bodyPost_ret (results_cell_row_tmp rfl _ _ rb 27 (spC s At i ct) _ rfl (BKW.row _) Try.underlying27 rfl (by rfl)) rfl ?_
              exact q9.good HPE.out HAL.out HLEN.out HST.out HRB.out
            · have hk1 : ((k : Int) != 0) = true := by rw [bne_iff_ne]; omega
              have hk2 : ((k : Int) == 0) = false := by rw [beq_eq_false_iff_ne]; omega
              go_wp2_with (first
                | (refine wpList_store_row rfl 27 (.tmp 2) (.tmp 86) rfl rb zspC rfl rfl 27 zspC BKW (by rfl) rfl zspC_one ?_))
              try simp only [Exit.inBlock, Exit.then]
              refine bodyPost_ret (results_cell_row_tmp rfl _ _ rb 27 zspC _ rfl (BKW.row zspC) Try.underlying27 rfl (by rfl)) rfl ?_
              exact parsePost_bad HPE.out hk0 q9.bel (q9.hr.1) rfl
      · have he1 : ((st.e : Int) == 0) = false := by rw [beq_eq_false_iff_ne]; omega
        have he2 : ((st.e : Int) != 0) = true := by rw [bne_iff_ne]; omega
        have BKW := q.rs
        go_wp2_with (first
          | (go_at_call 46; refine hE.out.mono ?_; rintro en w' ⟨rfl, hw⟩; rw [hw]; clear hw w') | (refine wpList_store_row rfl 27 (.tmp 2) (.tmp 86) rfl rb zspC rfl rfl 27 zspC BKW (by rfl) rfl zspC_one ?_))
        try simp only [Exit.inBlock, Exit.then]
        refine bodyPost_ret (results_cell_row_tmp rfl _ _ rb 27 zspC _ rfl (BKW.row zspC) Try.underlying27 rfl (by rfl)) rfl ?_
        exact parsePost_bad (HERR.out.trans (by rw [prErrOf, if_pos he])) (he) (q.bel) (q.hr.1) rfl
end Go.Proofs.Ytohnpogoldbplaa

/- Strings into bytes: '[]byte(s)' of a variable and of a constant. -/
namespace Go.Proofs.Ytohnpogoldbplaa
open Go.RowKit

/-- '[]byte(s)': what it hands back and lays, behind letters. -/
theorem conv_str : ∃ (cp : World → ByteArray → Nat) (ce : World → ByteArray → Array Value) (fa : World → ByteArray → Nat × Nat),
    (∀ (s : ByteArray) (W : World), (convert 9 28 (.string s)).run Try.prog W = .ok (.slice (some ⟨W.heap.size, 0, none⟩) s.size (cp W s)) (W.drew.alloc (.cells (ce W s) 5 (fa W s)))) ∧
    (∀ (s : ByteArray) (W : World), s.size ≤ cp W s ∧ ∀ (j : Nat) (u : Value), (bv (nums s))[j]? = some u → (ce W s)[j]? = some u) := by
  refine ⟨fun W s => grownCap W s.size 0 5, fun W s => bytesRow s (grownCap W s.size 0 5), fun W s => ((bytesRow s (grownCap W s.size 0 5)).size, (bytesRow s (grownCap W s.size 0 5)).size + 1),
    fun s W => run_bytes_of_string W _ _ _ s Try.underlying9 Try.underlying28 Try.underlying5, fun s W => ⟨?_, fun j u hu => ?_⟩⟩
  · exact grownCap_ge W s.size 0 5
  · have hj : j < (nums s).length := by
      have := (List.getElem?_eq_some_iff.1 hu).1
      simpa [bv] using this
    rw [nums_len] at hj
    have h1 : (bytesRow s (grownCap W s.size 0 5))[j]? = (s.data.map (fun b => Value.int .u8 b.toNat))[j]? := by
      unfold bytesRow
      rw [Array.getElem?_append_left (by simpa using hj)]
    rw [h1, ← hu]
    simp [bv, nums]
    rfl
theorem Rd.of_alloc {w : World} {cs : Array Value} {t : TypeId} {fr : Nat × Nat} {xs : List Value} (h : ∀ (j : Nat) (u : Value), xs[j]? = some u → cs[j]? = some u) : Rd (w.alloc (.cells cs t fr)) (w.heap.size + 1) (some ⟨w.heap.size, 0, none⟩) xs := fun _ =>
  ⟨w.heap.size, 0, rfl, by omega, fun j u hu => by rw [Nat.zero_add, World.cell?_alloc_mark]; exact h j u hu⟩

theorem conv_const (w : World) (C : Array Value) (n c g : Nat) (hg : g = w.heap.size) :
    (convert 28 28 (.slice (some ⟨g, 0, none⟩) n c)).run Try.prog (w.alloc (.cells C 5)) = .ok (.slice (some ⟨g, 0, none⟩) n c) (w.alloc (.cells C 5 (C.size, C.size + 1))) := by
  subst hg
  exact Lib.run_convert_bytes_const w _ _ C n c Try.underlying28 Try.underlying5

theorem Rd.litm {w : World} {cs : Array Value} {t : TypeId} {fr : Nat × Nat} {g : Nat} (hg : w.heap.size = g) : Rd (w.alloc (.cells cs t fr)) (g + 1) (some ⟨g, 0, none⟩) cs.toList := fun _ => by
  subst hg
  exact ⟨w.heap.size, 0, rfl, by omega, fun j u hu => by
    rw [Nat.zero_add, World.cell?_alloc_mark]
    simpa using hu⟩
end Go.Proofs.Ytohnpogoldbplaa

/- Spans: pieces; how a span is put into bytes. -/
namespace Go.Proofs.Ytohnpogoldbplaa
open Go.RowKit

def pie (s : ByteArray) : List Int := numEnc s.size ++ nums s
theorem pie_len (s : ByteArray) (h : s.size ≤ 1048576) : (pie s).length ≤ s.size + 10 := by
  have := numEnc_u64 (x := s.size) (by omega)
  rw [pie, List.length_append, nums_len]
  omega
theorem pies_len : ∀ (ls : List ByteArray), (∀ s ∈ ls, s.size ≤ 1048576) → (ls.flatMap pie).length ≤ (ls.length) * 1048586
  | [], _ => by simp
  | s :: ls, h => by
    have h1 := pie_len s (h s (by simp))
    have h2 := h s (by simp)
    have h3 := pies_len ls (fun t ht => h t (by simp [ht]))
    rw [List.flatMap_cons, List.length_append, List.length_cons]
    omega
set_option maxRecDepth 100000 in
set_option maxHeartbeats 1000000 in
theorem spPieces {base A n c b k c1} {xs : List Int} {ls : List ByteArray} (w : World) (ho : w.ownsRow base 5 1 (.slice A n c) n (bv xs)) (hb : base ≤ w.heap.size)
    (hcells : ∀ (i : Nat) (s : ByteArray), ls[i]? = some s → w.cell? ⟨b, i, none⟩ = some (.string s)) (hk : ls.length = k) (hbl : b < w.heap.size) (hfar : (Value.slice A n c).ownBlock ≠ some b) (hs : ∀ s ∈ ls, s.size ≤ 1048576) (hn : n + k * 1048586 + 1048592 ≤ 140737488355328) :
    Calls Try.prog 38 #[.slice A n c, .slice (some ⟨b, 0, none⟩) k c1] w (RetApp base 5 1 w (.slice A n c) (n + (ls.flatMap pie).length) (bv (xs ++ ls.flatMap pie)) (fun _ => True)) := by
  obtain ⟨cp, ce, fa, hcv, hce⟩ := conv_str
  have HCE := Lib.hid hce
  have HK := Lib.hid hk
  have HS := Lib.hid hs
  have HC := Lib.hid hcells
  have hlenA : ∀ j, ((ls.take j).flatMap pie).length ≤ k * 1048586 := fun j => by
    have h1 := pies_len (ls.take j) (fun s h => hs s (List.mem_of_mem_take h))
    have h3 : (ls.take j).length ≤ k := by rw [List.length_take]; omega
    exact Nat.le_trans h1 (Nat.mul_le_mul_right _ h3)
  have HL := Lib.hid hlenA
  clear hce hk hs hcells hlenA
  go_enter Try.func38, Try.ntmps38
  go_wp2
  go_loopw [0, 9] (fun v iv_ wr => ∃ (A' : Option Addr) (c' m j : Nat), j ≤ k ∧ v = .slice A' m c' ∧ iv_ = .int .i64 j ∧ m = n + ((ls.take j).flatMap pie).length ∧ App base 5 1 w (.slice A n c) wr (.slice A' m c') m (bv (xs ++ (ls.take j).flatMap pie))) (fun _ i _ => k - (intOf i).toNat)
  case atStart => exact ⟨A, c, n, 0, by omega, rfl, rfl, by simp, App.refl (by simpa using ho)⟩
  case round =>
    obtain ⟨A', c', m, j, hj, rfl, rfl, hm, happ⟩ := hrel
    have hmb := HL.out j
    have HM := Lib.hid hm
    have hmb2 : m + 1048592 ≤ 140737488355328 := by omega
    clear hm hmb
    by_cases hlt : j < k
    · have hlt' : (j : Int) < (k : Int) := by omega
      obtain ⟨s, hsj⟩ : ∃ s, ls[j]? = some s := ⟨_, List.getElem?_eq_getElem (by rw [HK.out]; exact hlt)⟩
      have hcell : wr.cell? ⟨b, j, none⟩ = some (.string s) := (World.cell?_of_block (a := ⟨b, j, none⟩) (happ.grown.block b hbl (fun e => hfar e.symm))).trans (HC.out j s hsj)
      have hss := HS.out s (List.mem_of_getElem? hsj)
      have HSJ := Lib.hid hsj
      clear hsj
      go_wp2_with fail
      obtain ⟨ca, hca⟩ : ∃ ca, cp wr s = ca := ⟨_, rfl⟩
      have hca' := (HCE.out s wr).1
      obtain ⟨D1, hD1⟩ : ∃ D1, ce wr s = D1 := ⟨_, rfl⟩
      have hD1' := (HCE.out s wr).2
      obtain ⟨F1, hF1⟩ : ∃ F1, fa wr s = F1 := ⟨_, rfl⟩
      rw [hca] at hca' ⊢
      rw [hD1] at hD1' ⊢
      rw [hF1]
      clear hca hD1 hF1
      have h2 := (happ.alloc (.cells D1 5 F1)).drew
      have hr2 := Rd.drew (Rd.of_alloc (w := wr) (t := 5) (fr := F1) hD1')
      have hsep : Sep A' (some ⟨wr.heap.size, 0, none⟩) := fun a1 a2 q1 q2 e => by
        subst q1
        have h3 := (happ.own.lt a1.block rfl).2
        have e' : a1.block = wr.heap.size := by rw [e, ← Option.some.inj q2]
        omega
      refine (wirePiece (m := s.size) _ h2.own (by have := happ.heap; show _ ≤ (wr.alloc _).heap.size; simp; omega) hr2 (by show _ ≤ (wr.alloc _).heap.size; simp) (.inr hsep) hmb2 (by rw [nums_len]; exact hss) (nums_len s)).mono ?_
      rintro e w5 ⟨A5, c5, rfl, happ5⟩
      have h5 := h2.trans happ5
      have e1 : ls.take (j + 1) = ls.take j ++ [s] := take_snoc HSJ.out
      have e2 : m + (numEnc (nums s).length).length + (nums s).length = n + ((ls.take (j + 1)).flatMap pie).length := by
        have := HM.out
        rw [e1, List.flatMap_append, List.length_append, List.flatMap_cons, List.flatMap_nil, List.append_nil, pie, List.length_append, nums_len]
        omega
      have e3 : xs ++ (ls.take j).flatMap pie ++ (numEnc (nums s).length ++ nums s) = xs ++ (ls.take (j + 1)).flatMap pie := by
        rw [e1, List.flatMap_append]
        simp [pie, nums_len]
      rw [e3] at h5
      obtain ⟨m5, hm5⟩ : ∃ m5, m + (numEnc (nums s).length).length + (nums s).length = m5 := ⟨_, rfl⟩
      rw [hm5] at h5 e2 ⊢
      have E2 := Lib.hid e2
      clear e2 hm5 e1 e3 hsep hr2 h2 happ5 hD1' hca'
      go_wp2
      go_roundw
      case rel => exact ⟨A5, c5, m5, j + 1, by omega, rfl, by go_num, E2.out, h5⟩
      case measure => simp [intOf]; omega
    · have hlt' : decide ((j : Int) < (k : Int)) = false := by simp; omega
      obtain rfl : j = k := by omega
      have e1 : ls.take j = ls := List.take_of_length_le (by rw [HK.out]; omega)
      have e2 : m = n + (ls.flatMap pie).length := by rw [HM.out, e1]
      rw [e1] at happ
      go_wp2
      go_ret
      exact ⟨A', c', by rw [← e2]; rfl, by rw [← e2]; exact happ, trivial⟩
end Go.Proofs.Ytohnpogoldbplaa

/- Spans: Append. -/
namespace Go.Proofs.Ytohnpogoldbplaa
open Go.RowKit

def Sp.U64 (s : Sp) : Prop := s.hi < 18446744073709551616 ∧ s.lo < 18446744073709551616 ∧ s.id < 18446744073709551616 ∧ s.parent < 18446744073709551616
def tgEnc (t : Tg) : List Int := pie t.key ++ pie t.val
def spHead (s : Sp) : List Int := [s.hi, s.lo, s.id, s.parent].flatMap ordEnc ++ (pie s.service ++ pie s.name) ++ [s.kind % 256] ++ (numEnc s.start.toNat ++ numEnc s.length.toNat) ++ [if s.fails = true then 1 else 0] ++ numEnc s.tags.length
def spEnc (s : Sp) : List Int := spHead s ++ s.tags.flatMap tgEnc

/-- append of bytes, at a step of a region that draws its order. -/
theorem step_appb {w : World} {ops : Array Oper} {o : Oper} {a : Act} {K : Act → World → Prop} {Q : Exit → Act → World → Prop} {E : Prop} (hgd : o.guard = none) (s x : Operand)
    (ho : o.op = .call { callee := .builtin .append, args := #[s, x], argTypes := #[28, 28] })
    (base : Nat) (v : Value) (n : Nat) (xs : List Int) (hs : a.eval s = v) (hown : w.ownsRow base 5 1 v n (bv xs))
    (B : Nat) (A : Option Addr) (m c : Nat) (news : List Int) (hx : a.eval x = .slice A m c) (hl : news.length = m) (hr : Rb w B A news)
    (hbytes : n + m ≤ 140737488355328) (hbase : base ≤ w.heap.size)
    (h : ∀ A' c' w', App base 5 1 w v w' (.slice A' (n + m) c') (n + m) (bv (xs ++ news)) → (A' = none → v = .slice none 0 0 ∧ m = 0) → K (a.put o.dst (.slice A' (n + m) c')) w') :
    if Region.wanted o (yielded ops a.tmps) = true then Oper.wp Try.prog o a w K Q else E := by
  have hw : Region.wanted o (yielded ops a.tmps) = true := by simp [Region.wanted, hgd]
  rw [if_pos hw]
  obtain ⟨i0, hi0, hz0, hz1, hz2⟩ := info_parts u8info
  refine wp_app w s x _ ho base 5 i0 _ 1 1 Try.underlying28 hi0 hz0 hz1 hz2 rfl (by omega) v n (bv xs) hs hown B A m c (bv news) hx (by rw [bv_length]; omega) hr (bv_one news) (by simp only [maxLen]; omega) (by omega) hbase ?_
  intro A' c' w' h1 h2 h3 h4
  rw [← bv_append] at h1
  exact h A' c' w' ((App.refl hown).step h1 h2 h3) h4

set_option maxHeartbeats 400000 in
theorem slClone {A : Option Addr} {c B n : Nat} {xs : List Int} (w : World) (ha : Rb w B A xs) (hB : B ≤ w.heap.size) (hx : xs.length ≤ 140737488351232) (hc : A = none → xs = [] ∧ c = 0) (hn : xs.length = n) :
    Calls Try.prog 36 #[.slice A n c] w (RetNew 5 1 w n (bv xs) (fun A' => A' = none → A = none)) := by
  subst hn
  cases A with
  | none =>
    obtain ⟨rfl, rfl⟩ := hc rfl
    go_enter Try.func36, Try.ntmps36
    go_wp2
    go_ret
    exact ⟨none, 0, rfl, App.refl (World.ownsRow_nil _ _ _ _), by simp⟩
  | some a =>
    go_enter Try.func36, Try.ntmps36
    go_wp2_with (at_builtin; go_loud (refine wpList_appb _ rfl (.tmp 5) (.tmp 6) rfl w.heap.size _ 0 [] rfl (World.ownsRow_lit w #[] 0 (Nat.le_refl _) (by simp [maxLen]) rfl) B _ xs.length c xs rfl rfl (ha.alloc hB _) (by omega) (by simp) ?_))
    intro A' c' w' happ hne
    go_wp2
    go_ret
    exact ⟨A', c', rfl, happ.fresh1, fun h => absurd h hne⟩
theorem spTruth (w : World) (b : Bool) : Calls Try.prog 40 #[.bool b] w fun e w' => e = .returned (.int .i64 (if b = true then 1 else 0)) ∧ w' = w := by
  cases b
  · go_enter Try.func40, Try.ntmps40
    go_wp2
    go_ret
    exact ⟨rfl, rfl⟩
  · go_enter Try.func40, Try.ntmps40
    go_wp2
    go_ret
    exact ⟨rfl, rfl⟩

/-- Append hands back bytes of its own. -/
def AppPost (w : World) (zs : List Int) (s : Sp) (e : Ending) (w' : World) : Prop :=
  Below w.heap.size w w' ∧ ((spChk s ≠ 0 ∧ e = .returned (.tuple #[.slice none 0 0, .int .i64 (spChk s)])) ∨
    (spChk s = 0 ∧ ∃ A' c', e = .returned (.tuple #[.slice A' (zs ++ spEnc s).length c', .int .i64 0]) ∧ Rb w' w'.heap.size A' (zs ++ spEnc s) ∧ (zs ++ spEnc s).length ≤ c' ∧ ∀ a, A' = some a → w.heap.size ≤ a.block))
end Go.Proofs.Ytohnpogoldbplaa
