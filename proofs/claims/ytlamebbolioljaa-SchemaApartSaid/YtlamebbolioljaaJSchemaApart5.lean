/- Texts of the proof of SchemaApartSaid, joined: SpC SpK SpL SpB SpD AdM ScJ RdrE. -/
import Derived.Test.YtlamebbolioljaaJSchemaApart2
import Derived.Deep.RegionHeld3
import Derived.Test.YtlamebbolioljaaJSchemaApart4
import Derived.Deep.Cut
import Derived.Deep.CutRange
import Derived.Test.YtlamebbolioljaaJSchemaApart3
import Derived.Deep.RegionWith
/- Spans: long, Check. -/
namespace Go.Proofs.Ytlamebbolioljaa
open Go.RowKit

/-- The first that p tells, or -1. -/
def idxT (p : Tg → Bool) (l : List Tg) : Int := match l.findIdx? p with | some i => (i : Int) | none => -1
theorem idxT_hit {p : Tg → Bool} {l : List Tg} {j : Nat} {x : Tg} (h : (l.take j).any p = false) (hx : l[j]? = some x) (hp : p x = true) : idxT p l = j := by
  have hj := (List.getElem?_eq_some_iff.1 hx).1
  have : l.findIdx? p = some j := by
    rw [List.findIdx?_eq_some_iff_getElem]
    refine ⟨hj, by rw [(List.getElem?_eq_some_iff.1 hx).2]; exact hp, fun i hi => ?_⟩
    have h1 := List.any_eq_false.1 h (l[i]'(by omega)) (List.mem_of_getElem? (i := i) (by rw [List.getElem?_take, if_pos hi]; exact List.getElem?_eq_getElem _))
    simpa using h1
  rw [idxT, this]
theorem idxT_none {p : Tg → Bool} {l : List Tg} (h : l.any p = false) : idxT p l = -1 := by
  have : l.findIdx? p = none := by
    rw [List.findIdx?_eq_none_iff]
    intro x hx
    have := List.any_eq_false.1 h x hx
    simpa using this
  rw [idxT, this]
theorem idxT_any (p : Tg → Bool) (l : List Tg) : decide (0 ≤ idxT p l) = l.any p := by
  by_cases h : l.any p = true
  · rw [h, decide_eq_true_iff, idxT]
    cases hf : l.findIdx? p with
    | none =>
      rw [List.findIdx?_eq_none_iff] at hf
      obtain ⟨x, hx, hp⟩ := List.any_eq_true.1 h
      rw [hf x hx] at hp
      cases hp
    | some i => simp only; omega
  · have h : l.any p = false := by simpa using h
    rw [h, idxT_none h]
    rfl

set_option maxHeartbeats 400000 in
theorem spIndexLong {A : Option Addr} {c n B : Nat} {l : List Tg} (w : World) (hf : RbT w B A l) (hn : l.length = n) (hB : B ≤ w.heap.size) (hnl : n ≤ 9223372036854775807) :
    Calls Try.prog 107 #[.slice A n c, .func (.func 104) #[] #[]] w fun e w' => e = .returned (.int .i64 (idxT tgLong l)) ∧ Below w.heap.size w w' := by
  have HN := Lib.hid hn
  obtain ⟨q, hq⟩ : ∃ q, idxT tgLong l = q := ⟨_, rfl⟩
  rw [hq]
  have HQ := Lib.hid hq
  clear hn hq
  go_enter Try.func107, Try.ntmps107
  go_wp2
  go_loopw [8] (fun iv_ wr => ∃ j : Nat, j ≤ n ∧ iv_ = .int .i64 j ∧ (l.take j).any tgLong = false ∧ Below w.heap.size w wr) (fun i _ => n - (intOf i).toNat)
  case atStart => exact ⟨0, by omega, rfl, rfl, Below.refl _ _⟩
  case round =>
    obtain ⟨j, hj, rfl, hall, hb⟩ := hrel
    have HA := Lib.hid hall
    clear hall
    by_cases hlt : j < n
    · have hlt' : (j : Int) < (n : Int) := by omega
      obtain ⟨x, hx⟩ : ∃ x, l[j]? = some x := ⟨_, List.getElem?_eq_getElem (by rw [HN.out]; exact hlt)⟩
      obtain ⟨b, o, rfl, hbb, h1, h2⟩ := RbT.get (Rd.below hf (hb.mono hB)) hx
      have HX := Lib.hid hx
      clear hx
      go_wp2_with (go_at_call 104; refine (spLong1 _ x).mono ?_; rintro e w' ⟨rfl, hb'⟩)
      · have hb2 := hb.trans (hb'.mono hb.size)
        rename_i hpx
        go_ret
        have hqt : q = (j : Int) := by
          rw [← HQ.out]
          exact idxT_hit HA.out HX.out (by first | exact hpx | simpa using hpx)
        exact ⟨by rw [hqt]; rfl, hb2⟩
      · have hb2 := hb.trans (hb'.mono hb.size)
        rename_i hpx
        go_roundw
        case rel => exact ⟨j + 1, by omega, by go_num, by rw [take_snoc HX.out, List.any_append, HA.out]; simpa using hpx, hb2⟩
        case measure => simp [intOf]; omega
    · have hlt' : decide ((j : Int) < (n : Int)) = false := by simp; omega
      go_wp2
      go_ret
      have : q = -1 := by
        rw [← HQ.out]
        have h1 := HA.out
        rw [List.take_of_length_le (by rw [HN.out]; omega)] at h1
        exact idxT_none h1
      exact ⟨by rw [this]; rfl, hb⟩

theorem spHasLong {A : Option Addr} {c n B : Nat} {l : List Tg} (w : World) (hf : RbT w B A l) (hn : l.length = n) (hB : B ≤ w.heap.size) (hnl : n ≤ 9223372036854775807) :
    Calls Try.prog 103 #[.slice A n c, .func (.func 104) #[] #[]] w fun e w' => e = .returned (.bool (l.any tgLong)) ∧ Below w.heap.size w w' := by
  have hc := spIndexLong (c := c) w hf hn hB hnl
  have ha := idxT_any tgLong l
  obtain ⟨q, hq⟩ : ∃ q, idxT tgLong l = q := ⟨_, rfl⟩
  rw [hq] at hc ha
  rw [← ha]
  have HC := Lib.hid hc
  clear hc hq ha
  go_enter Try.func103, Try.ntmps103
  go_wp2_with (go_at_call 107; refine HC.out.mono ?_; rintro e w' ⟨rfl, hb'⟩)
  go_ret
  exact ⟨rfl, hb'⟩

set_option maxHeartbeats 400000 in
theorem spLong {A : Option Addr} {c n B : Nat} (s : Sp) (w : World) (hf : RbT w B A s.tags) (hn : s.tags.length = n) (hB : B ≤ w.heap.size) (hnl : n ≤ 9223372036854775807) :
    Calls Try.prog 89 #[spV s A n c] w fun e w' => e = .returned (.bool (longB s)) ∧ Below w.heap.size w w' := by
  obtain ⟨q, hq⟩ : ∃ q, longB s = q := ⟨_, rfl⟩
  rw [hq]
  unfold longB at hq
  rw [hn] at hq
  have HQ := Lib.hid hq
  have hb0 : Below w.heap.size w (w.alloc (.cells (spC s A n c) 43)) := (Below.refl _ w).alloc (Nat.le_refl _) _
  have hf1 := Rd.alloc hf hB (.cells (spC s A n c) 43)
  clear hq
  by_cases h1 : 128 < s.service.size
  · have d1 : (128 : Int) < (s.service.size : Int) := by omega
    go_enter Try.func89, Try.ntmps89
    go_wp2
    go_ret
    have : q = true := by rw [← HQ.out]; simp [h1]
    exact ⟨by rw [this]; rfl, hb0⟩
  have d1 : decide ((128 : Int) < (s.service.size : Int)) = false := by simp; omega
  by_cases h2 : 128 < s.name.size
  · have d2 : (128 : Int) < (s.name.size : Int) := by omega
    go_enter Try.func89, Try.ntmps89
    go_wp2
    go_ret
    have : q = true := by rw [← HQ.out]; simp [h2]
    exact ⟨by rw [this]; rfl, hb0⟩
  have d2 : decide ((128 : Int) < (s.name.size : Int)) = false := by simp; omega
  by_cases h3 : 16 < n
  · have d3 : (16 : Int) < (n : Int) := by omega
    go_enter Try.func89, Try.ntmps89
    go_wp2
    go_ret
    have : q = true := by rw [← HQ.out]; simp [h3]
    exact ⟨by rw [this]; rfl, hb0⟩
  have d3 : decide ((16 : Int) < (n : Int)) = false := by simp; omega
  have hc := spHasLong (c := c) _ hf1 hn (by simp; omega) hnl
  obtain ⟨a, ha⟩ : ∃ a, s.tags.any tgLong = a := ⟨_, rfl⟩
  rw [ha] at hc
  have hqa : q = a := by rw [← HQ.out, ha]; simp [h1, h2, h3]
  have HC := Lib.hid hc
  clear hc ha
  go_enter Try.func89, Try.ntmps89
  go_wp2_with (go_at_call 103; refine HC.out.mono ?_; rintro e w' ⟨rfl, hb'⟩)
  go_ret
  exact ⟨by rw [hqa]; rfl, hb0.trans (hb'.mono (by simp))⟩
end Go.Proofs.Ytlamebbolioljaa

/- Spans: Check. -/
namespace Go.Proofs.Ytlamebbolioljaa
open Go.RowKit

theorem tagOk_at {l : List Tg} {i : Nat} {t : Tg} (h : l[i]? = some t) : tagOk l i = (nameB t.key && txtB t.val && (decide (i = 0) || match l[i - 1]? with | none => true | some u => strLt u.key t.key)) := by
  simp only [tagOk, h]
  rfl
set_option maxRecDepth 100000 in
set_option maxHeartbeats 2000000 in
/-- Check of a span that is not too long and whose head is right. -/
theorem spCheck1 {A : Option Addr} {c n B : Nat} (s : Sp) (w : World) (hf : RbT w B A s.tags) (hn : s.tags.length = n) (hB : B ≤ w.heap.size) (hnl : n ≤ 9223372036854775807) (hlong : longB s = false) (hhead : headB s = true) :
    Calls Try.prog 73 #[spV s A n c] w fun e w' => e = .returned (.int .i64 (if tagsOk s.tags n = true then 0 else 2 : Nat)) ∧ Below w.heap.size w w' := by
  have hb0 : Below w.heap.size w (w.alloc (.cells (spC s A n c) 43)) := (Below.refl _ w).alloc (Nat.le_refl _) _
  have hf1 := Rd.alloc hf hB (.cells (spC s A n c) 43)
  have bk := Bk.new w 43 (spC s A n c)
  have hs1 : (w.alloc (.cells (spC s A n c) 43)).heap.size = w.heap.size + 1 := by simp
  obtain ⟨w1, hw1⟩ : ∃ w1, w.alloc (.cells (spC s A n c) 43) = w1 := ⟨_, rfl⟩
  rw [hw1] at hb0 hf1 bk hs1
  have HW := Lib.hid hw1
  have hc := spLong (c := c) s w1 hf1 hn (by omega) hnl
  rw [hlong] at hc
  have HC := Lib.hid hc
  obtain ⟨q, hq⟩ : ∃ q, tagsOk s.tags n = q := ⟨_, rfl⟩
  rw [hq]
  have HQ := Lib.hid hq
  have HN := Lib.hid hn
  clear hw1 hc hq hn hlong
  simp only [headB, Bool.and_eq_true, Bool.or_eq_true, decide_eq_true_eq, ne_eq] at hhead
  obtain ⟨⟨⟨⟨⟨⟨⟨⟨⟨h0, h1⟩, h2⟩, h3⟩, h4⟩, h5⟩, h6⟩, h7⟩, h8⟩, h9⟩ := hhead
  have N2 := Lib.hid h2
  have N3 := Lib.hid h3
  have d1 : ((s.id : Int) != 0) = true := by rw [bne_iff_ne]; omega
  go_enter Try.func73, Try.ntmps73
  go_wp2_with fail
  rw [HW.out]
  refine HC.out.mono ?_
  rintro e w2 ⟨rfl, hb2⟩
  have hs2 := hb2.size
  have hb02 := hb0.trans (hb2.mono (by omega))
  have hf2 := (Rd.below hf1 (hb2.mono (by omega))).more (show B ≤ w2.heap.size by omega)
  have bk2 := bk.below hb2 (by omega)
  obtain ⟨g, hg⟩ : ∃ g, w.heap.size = g := ⟨_, rfl⟩
  rw [hg] at bk2 ⊢
  have k0 : w2.cell? ⟨g, 0, none⟩ = some (.int .u64 s.hi) := bk2.cell 0
  have k1 : w2.cell? ⟨g, 1, none⟩ = some (.int .u64 s.lo) := bk2.cell 1
  have k2 : w2.cell? ⟨g, 2, none⟩ = some (.int .u64 s.id) := bk2.cell 2
  have k4 : w2.cell? ⟨g, 4, none⟩ = some (.string s.service) := bk2.cell 4
  have k5 : w2.cell? ⟨g, 5, none⟩ = some (.string s.name) := bk2.cell 5
  have k6 : w2.cell? ⟨g, 6, none⟩ = some (.int .i64 s.kind) := bk2.cell 6
  have k7 : w2.cell? ⟨g, 7, none⟩ = some (.int .i64 s.start) := bk2.cell 7
  have k8 : w2.cell? ⟨g, 8, none⟩ = some (.int .i64 s.length) := bk2.cell 8
  have k10 : w2.cell? ⟨g, 10, none⟩ = some (.slice A n c) := bk2.cell 10
  clear bk hf1 hb0 HW
  have HHS := Lib.hid hs2
  have HH1 := Lib.hid hs1
  have HHB := Lib.hid hB
  have HHG := Lib.hid hg
  have HB02 := Lib.hid hb02
  have HF2 := Lib.hid hf2
  have HBK := Lib.hid bk2
  clear hs2 hs1 hB hg hb02 hf2 bk2 hf hb2 h2 h3
  have h6' : decide (s.kind ≤ 5) = true := by simpa using h5
  go_wp2_with (first
    | (go_at_call 90; refine (spName _ _).mono ?_; rintro e w' ⟨rfl, hw⟩; rw [hw]; clear hw w'; first | rw [N2.out] | rw [N3.out]))
  all_goals
    go_loopw [3, 63] (fun fv iv_ wr => ∃ j : Nat, j ≤ n ∧ iv_ = .int .i64 j ∧ fv = .bool (tagsOk s.tags j) ∧ Below w2.heap.size w2 wr) (fun _ i _ => n - (intOf i).toNat)
    case atStart => exact ⟨0, by omega, rfl, rfl, Below.refl _ _⟩
    case round =>
      obtain ⟨j, hj, rfl, rfl, hb⟩ := hrel
      obtain ⟨f, hf⟩ : ∃ f, tagsOk s.tags j = f := ⟨_, rfl⟩
      rw [hf]
      have HF := Lib.hid hf
      clear hf
      have hgl : g < w2.heap.size := by have := HHG.out; have := HHS.out; have := HH1.out; omega
      by_cases hlt : j < n
      · have hlt' : (j : Int) < (n : Int) := by omega
        obtain ⟨x, hx⟩ : ∃ x, s.tags[j]? = some x := ⟨_, List.getElem?_eq_getElem (by rw [HN.out]; exact hlt)⟩
        have hRb : Rd wr w2.heap.size A (tgs s.tags) := (Rd.more HF2.out (Nat.le_refl _)).below hb
        obtain ⟨b, o, rfl, hbb, c1, c2⟩ := RbT.get hRb hx
        have k10' : wr.cell? ⟨g, 10, none⟩ = some (.slice (some ⟨b, o, none⟩) n c) := (hb.cell (p := ⟨g, 10, none⟩) hgl).trans k10
        have HX := Lib.hid hx
        clear hx
        go_wp2_with fail
        have hsr := hb.size
        have m0 : (wr.alloc (.cells #[.string x.key, .string x.val] 97)).cell? ⟨wr.heap.size, 0, none⟩ = some (.string x.key) := (Bk.new wr 97 #[.string x.key, .string x.val]).cell 0
        have m1 : (wr.alloc (.cells #[.string x.key, .string x.val] 97)).cell? ⟨wr.heap.size, 1, none⟩ = some (.string x.val) := (Bk.new wr 97 #[.string x.key, .string x.val]).cell 1
        have k10W := (World.cell?_alloc_lt wr (.cells #[.string x.key, .string x.val] 97) ⟨g, 10, none⟩ (by simp only; omega)).trans k10'
        have hRW := Rd.alloc hRb hsr (.cells #[.string x.key, .string x.val] 97)
        have hbW := hb.alloc hsr (.cells #[.string x.key, .string x.val] 97)
        obtain ⟨W, hW⟩ : ∃ W, wr.alloc (.cells #[.string x.key, .string x.val] 97) = W := ⟨_, rfl⟩
        rw [hW] at m0 m1 k10W hRW hbW ⊢
        obtain ⟨r, hr⟩ : ∃ r, wr.heap.size = r := ⟨_, rfl⟩
        rw [hr] at m0 m1 ⊢
        have HHRW := Lib.hid hRW
        have HBW := Lib.hid hbW
        clear hW hr hsr hRW hbW hRb hb hgl
        have hstep : tagsOk s.tags (j + 1) = (f && (nameB x.key && txtB x.val && (decide (j = 0) || match s.tags[j - 1]? with | none => true | some u => strLt u.key x.key))) := by
          rw [tagsOk_succ, HF.out, tagOk_at HX.out]
        by_cases hft : f = false
        · subst hft
          have HST : Hid (tagsOk s.tags (j + 1) = false) := by rw [hstep]; rfl
          clear hstep
          go_quiet (fail)
          go_wp2
          go_roundw
          case rel => exact ⟨j + 1, by omega, by go_num, by rw [HST.out], below_drewN HBW.out _⟩
          case measure => simp [intOf]; omega
        obtain rfl : f = true := by simpa using hft
        obtain ⟨n1, hn1⟩ : ∃ n1, nameB x.key = n1 := ⟨_, rfl⟩
        have cN : ∀ W', Calls Try.prog 90 #[.string x.key] W' fun e w' => e = .returned (.bool n1) ∧ w' = W' := by intro W'; have := spName W' x.key; rwa [hn1] at this
        rw [hn1] at hstep
        clear hn1 hft
        cases n1 with
        | false =>
          have HST : Hid (tagsOk s.tags (j + 1) = false) := by rw [hstep]; rfl
          clear hstep
          go_quiet ((go_at_call 90; go_loud (exact Calls.quiet_of_same (cN _))))
          go_wp2
          go_roundw
          case rel => exact ⟨j + 1, by omega, by go_num, by rw [HST.out], below_drewN HBW.out _⟩
          case measure => simp [intOf]; omega
        | true =>
        obtain ⟨t1, ht1⟩ : ∃ t1, txtB x.val = t1 := ⟨_, rfl⟩
        have cT : ∀ W', Calls Try.prog 37 #[.string x.val] W' fun e w' => e = .returned (.bool t1) ∧ w' = W' := by intro W'; have := spText W' x.val; rwa [ht1] at this
        rw [ht1] at hstep
        clear ht1
        cases t1 with
        | false =>
          have HST : Hid (tagsOk s.tags (j + 1) = false) := by rw [hstep]; rfl
          clear hstep
          go_quiet (first
            | (go_at_call 90; go_loud (exact Calls.quiet_of_same (cN _)))
            | (go_at_call 37; go_loud (exact Calls.quiet_of_same (cT _))))
          go_wp2
          go_roundw
          case rel => exact ⟨j + 1, by omega, by go_num, by rw [HST.out], below_drewN HBW.out _⟩
          case measure => simp [intOf]; omega
        | true =>
        cases j with
        | zero =>
          have HST : Hid (tagsOk s.tags (0 + 1) = true) := by rw [hstep]; rfl
          clear hstep
          go_quiet (first
            | (go_at_call 90; go_loud (exact Calls.quiet_of_same (cN _)))
            | (go_at_call 37; go_loud (exact Calls.quiet_of_same (cT _))))
          go_wp2
          go_roundw
          case rel => exact ⟨0 + 1, by omega, by go_num, by rw [HST.out], below_drewN HBW.out _⟩
          case measure => simp [intOf]; omega
        | succ k =>
          obtain ⟨u, hu⟩ : ∃ u, s.tags[k]? = some u := ⟨_, List.getElem?_eq_getElem (by rw [HN.out]; omega)⟩
          obtain ⟨b', o', e', _, p1, _⟩ := RbT.get HHRW.out hu
          cases e'
          have e1 : (k : Int) + 1 - 1 = (k : Int) := by omega
          have e2 : ((k : Int) + 1 == 0) = false := by rw [beq_eq_false_iff_ne]; omega
          have hkn : (k : Int) < (n : Int) := by omega
          have hkn' : k < n := by omega
          have hst : tagsOk s.tags (k + 1 + 1) = strLt u.key x.key := by rw [hstep, show k + 1 - 1 = k from rfl, hu]; simp
          have HST := Lib.hid hst
          clear hst
          clear hstep hu c1 c2
          go_quiet (first
            | (go_at_call 90; go_loud (exact Calls.quiet_of_same (cN _)))
            | (go_at_call 37; go_loud (exact Calls.quiet_of_same (cT _))))
          go_wp2
          go_roundw
          case rel => exact ⟨k + 1 + 1, by omega, by go_num, by rw [HST.out]; rfl, below_drewN HBW.out _⟩
          case measure => simp [intOf]; omega
      · have hlt' : decide ((j : Int) < (n : Int)) = false := by simp; omega
        obtain rfl : j = n := by omega
        have hqf : f = q := by rw [← HF.out, HQ.out]
        subst hqf
        cases f
        · go_wp2
          go_ret
          exact ⟨rfl, HB02.out.trans (hb.mono (by have := HHS.out; have := HH1.out; omega))⟩
        · go_wp2
          go_ret
          exact ⟨rfl, HB02.out.trans (hb.mono (by have := HHS.out; have := HH1.out; omega))⟩
end Go.Proofs.Ytlamebbolioljaa

/- Spans: Check of a span whose head is not right; Check of any span. -/
namespace Go.Proofs.Ytlamebbolioljaa
open Go.RowKit

set_option maxRecDepth 100000 in
set_option maxHeartbeats 8000000 in
/-- Check of a span that is not too long and whose head is not right. -/
theorem spCheck0 {A : Option Addr} {c n B : Nat} (s : Sp) (w : World) (hf : RbT w B A s.tags) (hn : s.tags.length = n) (hB : B ≤ w.heap.size) (hnl : n ≤ 9223372036854775807) (hlong : longB s = false) (hhead : headB s = false) :
    Calls Try.prog 73 #[spV s A n c] w fun e w' => e = .returned (.int .i64 2) ∧ Below w.heap.size w w' := by
  have hb0 : Below w.heap.size w (w.alloc (.cells (spC s A n c) 43)) := (Below.refl _ w).alloc (Nat.le_refl _) _
  have hf1 := Rd.alloc hf hB (.cells (spC s A n c) 43)
  have bk := Bk.new w 43 (spC s A n c)
  have hs1 : (w.alloc (.cells (spC s A n c) 43)).heap.size = w.heap.size + 1 := by simp
  obtain ⟨w1, hw1⟩ : ∃ w1, w.alloc (.cells (spC s A n c) 43) = w1 := ⟨_, rfl⟩
  rw [hw1] at hb0 hf1 bk hs1
  have HW := Lib.hid hw1
  have hc := spLong (c := c) s w1 hf1 hn (by omega) hnl
  rw [hlong] at hc
  have HC := Lib.hid hc
  have HN := Lib.hid hn
  clear hw1 hc hn hlong
  have hcase : (s.hi = 0 ∧ s.lo = 0) ∨ ((s.hi ≠ 0 ∨ s.lo ≠ 0) ∧ (s.id = 0 ∨ s.id ≠ 0 ∧ (nameB s.service = false ∨ nameB s.service = true ∧ (nameB s.name = false ∨ nameB s.name = true ∧ (decide (0 ≤ s.kind) = false ∨ 0 ≤ s.kind ∧ (decide (s.kind ≤ 5) = false ∨ s.kind ≤ 5 ∧
      (decide (0 ≤ s.start) = false ∨ 0 ≤ s.start ∧ (decide (0 ≤ s.length) = false ∨ 0 ≤ s.length ∧ (decide (s.start ≤ 4611686018427387903) = false ∨ s.start ≤ 4611686018427387903 ∧ decide (s.length ≤ 4611686018427387903 - s.start) = false))))))))) := by
    by_cases a0 : s.hi = 0 ∧ s.lo = 0
    · exact .inl a0
    refine .inr ⟨by omega, ?_⟩
    by_cases a1 : s.id = 0
    · exact .inl a1
    refine .inr ⟨a1, ?_⟩
    cases a2 : nameB s.service with
    | false => exact .inl rfl
    | true =>
    refine .inr ⟨rfl, ?_⟩
    cases a3 : nameB s.name with
    | false => exact .inl rfl
    | true =>
    refine .inr ⟨rfl, ?_⟩
    by_cases a4 : 0 ≤ s.kind
    case neg => exact .inl (by simpa using a4)
    refine .inr ⟨a4, ?_⟩
    by_cases a5 : s.kind ≤ 5
    case neg => exact .inl (by simpa using a5)
    refine .inr ⟨a5, ?_⟩
    by_cases a6 : 0 ≤ s.start
    case neg => exact .inl (by simpa using a6)
    refine .inr ⟨a6, ?_⟩
    by_cases a7 : 0 ≤ s.length
    case neg => exact .inl (by simpa using a7)
    refine .inr ⟨a7, ?_⟩
    by_cases a8 : s.start ≤ 4611686018427387903
    case neg => exact .inl (by simpa using a8)
    refine .inr ⟨a8, ?_⟩
    by_cases a9 : s.length ≤ 4611686018427387903 - s.start
    case neg => simpa using a9
    have : headB s = true := by
      simp only [headB, a2, a3, Bool.and_eq_true, Bool.or_eq_true, decide_eq_true_eq, ne_eq]
      exact ⟨⟨⟨⟨⟨⟨⟨⟨⟨by omega, a1⟩, trivial⟩, trivial⟩, a4⟩, a5⟩, a6⟩, a7⟩, a8⟩, a9⟩
    rw [hhead] at this
    cases this
  have HCASE := Lib.hid hcase
  clear hcase hhead
  go_enter Try.func73, Try.ntmps73
  go_wp2_with fail
  rw [HW.out]
  refine HC.out.mono ?_
  rintro e w2 ⟨rfl, hb2⟩
  have hs2 := hb2.size
  have hb02 := hb0.trans (hb2.mono (by omega))
  have hf2 := (Rd.below hf1 (hb2.mono (by omega))).more (show B ≤ w2.heap.size by omega)
  have bk2 := bk.below hb2 (by omega)
  obtain ⟨g, hg⟩ : ∃ g, w.heap.size = g := ⟨_, rfl⟩
  rw [hg] at bk2 ⊢
  have k0 : w2.cell? ⟨g, 0, none⟩ = some (.int .u64 s.hi) := bk2.cell 0
  have k1 : w2.cell? ⟨g, 1, none⟩ = some (.int .u64 s.lo) := bk2.cell 1
  have k2 : w2.cell? ⟨g, 2, none⟩ = some (.int .u64 s.id) := bk2.cell 2
  have k4 : w2.cell? ⟨g, 4, none⟩ = some (.string s.service) := bk2.cell 4
  have k5 : w2.cell? ⟨g, 5, none⟩ = some (.string s.name) := bk2.cell 5
  have k6 : w2.cell? ⟨g, 6, none⟩ = some (.int .i64 s.kind) := bk2.cell 6
  have k7 : w2.cell? ⟨g, 7, none⟩ = some (.int .i64 s.start) := bk2.cell 7
  have k8 : w2.cell? ⟨g, 8, none⟩ = some (.int .i64 s.length) := bk2.cell 8
  have k10 : w2.cell? ⟨g, 10, none⟩ = some (.slice A n c) := bk2.cell 10
  clear bk hf1 hb0 HW
  have HHS := Lib.hid hs2
  have HH1 := Lib.hid hs1
  have HHB := Lib.hid hB
  have HHG := Lib.hid hg
  have HB02 := Lib.hid hb02
  have HF2 := Lib.hid hf2
  have HBK := Lib.hid bk2
  clear hs2 hs1 hB hg hb02 hf2 bk2 hf hb2
  have hcase := HCASE.out
  clear HCASE
  rcases hcase with ⟨a0, a0'⟩ | ⟨a0, a1 | ⟨a1, a2 | ⟨a2, a3 | ⟨a3, a4 | ⟨a4, a5 | ⟨a5, a6 | ⟨a6, a7 | ⟨a7, a8 | ⟨a8, a9⟩⟩⟩⟩⟩⟩⟩⟩⟩
  all_goals first
    | (have d1 : ((s.id : Int) != 0) = true := by rw [bne_iff_ne]; omega)
    | (have d1 : ((s.id : Int) != 0) = false := by rw [a1]; rfl)
    | skip
  all_goals go_wp2_with (first
    | (go_at_call 90; refine (spName _ _).mono ?_; rintro e w' ⟨rfl, hw⟩; rw [hw]; clear hw w'; first | rw [a2] | rw [a3]))
  all_goals
    go_loopw [3, 63] (fun fv iv_ wr => ∃ j : Nat, j ≤ n ∧ iv_ = .int .i64 j ∧ fv = .bool false ∧ Below w2.heap.size w2 wr) (fun _ i _ => n - (intOf i).toNat)
    case atStart => exact ⟨0, by omega, rfl, rfl, Below.refl _ _⟩
    case round =>
      obtain ⟨j, hj, rfl, rfl, hb⟩ := hrel
      have hgl : g < w2.heap.size := by have := HHG.out; have := HHS.out; have := HH1.out; omega
      by_cases hlt : j < n
      · have hlt' : (j : Int) < (n : Int) := by omega
        obtain ⟨x, hx⟩ : ∃ x, s.tags[j]? = some x := ⟨_, List.getElem?_eq_getElem (by rw [HN.out]; exact hlt)⟩
        have hRb : Rd wr w2.heap.size A (tgs s.tags) := (Rd.more HF2.out (Nat.le_refl _)).below hb
        obtain ⟨b, o, rfl, hbb, c1, c2⟩ := RbT.get hRb hx
        have k10' : wr.cell? ⟨g, 10, none⟩ = some (.slice (some ⟨b, o, none⟩) n c) := (hb.cell (p := ⟨g, 10, none⟩) hgl).trans k10
        have HX := Lib.hid hx
        clear hx
        go_wp2_with fail
        have hbW := hb.alloc hb.size (.cells #[.string x.key, .string x.val] 97)
        obtain ⟨W, hW⟩ : ∃ W, wr.alloc (.cells #[.string x.key, .string x.val] 97) = W := ⟨_, rfl⟩
        rw [hW] at hbW ⊢
        have HBW := Lib.hid hbW
        clear hW hbW hRb hb hgl c1 c2 k10'
        go_quiet (fail)
        go_wp2
        go_roundw
        case rel => exact ⟨j + 1, by omega, by go_num, rfl, below_drewN HBW.out _⟩
        case measure => simp [intOf]; omega
      · have hlt' : decide ((j : Int) < (n : Int)) = false := by simp; omega
        go_wp2
        go_ret
        exact ⟨rfl, HB02.out.trans (hb.mono (by have := HHS.out; have := HH1.out; omega))⟩

set_option maxHeartbeats 400000 in
/-- Check of any span. -/
theorem spCheck {A : Option Addr} {c n B : Nat} (s : Sp) (w : World) (hf : RbT w B A s.tags) (hn : s.tags.length = n) (hB : B ≤ w.heap.size) (hnl : n ≤ 9223372036854775807) :
    Calls Try.prog 73 #[spV s A n c] w fun e w' => e = .returned (.int .i64 (spChk s)) ∧ Below w.heap.size w w' := by
  cases hl : longB s with
  | true =>
    have hr : spChk s = 3 := by rw [spChk, if_pos hl]
    rw [hr]
    have hf1 := Rd.alloc hf hB (.cells (spC s A n c) 43)
    have hb0 : Below w.heap.size w (w.alloc (.cells (spC s A n c) 43)) := (Below.refl _ w).alloc (Nat.le_refl _) _
    have hc := spLong (c := c) s _ hf1 hn (by simp; omega) hnl
    rw [hl] at hc
    have HC := Lib.hid hc
    clear hc hl
    go_enter Try.func73, Try.ntmps73
    go_wp2_with fail
    refine HC.out.mono ?_
    rintro e w2 ⟨rfl, hb2⟩
    go_wp2
    go_ret
    exact ⟨rfl, hb0.trans (hb2.mono (by simp))⟩
  | false =>
    cases hh : headB s with
    | false =>
      have hr : spChk s = 2 := by rw [spChk, hl, hh]; rfl
      rw [hr]
      exact spCheck0 s w hf hn hB hnl hl hh
    | true =>
      have hr : spChk s = if tagsOk s.tags n = true then 0 else 2 := by rw [spChk, hl, hh, hn]; rfl
      rw [hr]
      exact spCheck1 s w hf hn hB hnl hl hh
end Go.Proofs.Ytlamebbolioljaa

/- Spans: Append. -/
namespace Go.Proofs.Ytlamebbolioljaa
open Go.RowKit

def Sp.U64 (s : Sp) : Prop := s.hi < 18446744073709551616 ∧ s.lo < 18446744073709551616 ∧ s.id < 18446744073709551616 ∧ s.parent < 18446744073709551616
def tgEnc (t : Tg) : List Int := pie t.key ++ pie t.val
def spHead (s : Sp) : List Int := [s.hi, s.lo, s.id, s.parent].flatMap ordEnc ++ (pie s.service ++ pie s.name) ++ [s.kind % 256] ++ (numEnc s.start.toNat ++ numEnc s.length.toNat) ++ [if s.fails = true then 1 else 0] ++ numEnc s.tags.length
def spEnc (s : Sp) : List Int := spHead s ++ s.tags.flatMap tgEnc

/-- append of bytes, at a step of a region that draws its order. -/
theorem step_appb {w : World} {ops : Array Oper} {o : Oper} {a : Act} {K : Act → World → Prop} {Q : Exit → Act → World → Prop} {E : Prop} (hgd : o.guard = none) (s x : Operand)
    (ho : o.op = .call { callee := .builtin .append, args := #[s, x], argTypes := #[27, 27] })
    (base : Nat) (v : Value) (n : Nat) (xs : List Int) (hs : a.eval s = v) (hown : w.ownsRow base 5 1 v n (bv xs))
    (B : Nat) (A : Option Addr) (m c : Nat) (news : List Int) (hx : a.eval x = .slice A m c) (hl : news.length = m) (hr : Rb w B A news)
    (hbytes : n + m ≤ 140737488355328) (hbase : base ≤ w.heap.size)
    (h : ∀ A' c' w', App base 5 1 w v w' (.slice A' (n + m) c') (n + m) (bv (xs ++ news)) → (A' = none → v = .slice none 0 0 ∧ m = 0) → K (a.put o.dst (.slice A' (n + m) c')) w') :
    if Region.wanted o (yielded ops a.tmps) = true then Oper.wp Try.prog o a w K Q else E := by
  have hw : Region.wanted o (yielded ops a.tmps) = true := by simp [Region.wanted, hgd]
  rw [if_pos hw]
  obtain ⟨i0, hi0, hz0, hz1, hz2⟩ := info_parts u8info
  refine wp_app w s x _ ho base 5 i0 _ 1 1 Try.underlying27 hi0 hz0 hz1 hz2 rfl (by omega) v n (bv xs) hs hown B A m c (bv news) hx (by rw [bv_length]; omega) hr (bv_one news) (by simp only [maxLen]; omega) (by omega) hbase ?_
  intro A' c' w' h1 h2 h3 h4
  rw [← bv_append] at h1
  exact h A' c' w' ((App.refl hown).step h1 h2 h3) h4

set_option maxHeartbeats 400000 in
theorem slClone {A : Option Addr} {c B n : Nat} {xs : List Int} (w : World) (ha : Rb w B A xs) (hB : B ≤ w.heap.size) (hx : xs.length ≤ 140737488351232) (hc : A = none → xs = [] ∧ c = 0) (hn : xs.length = n) :
    Calls Try.prog 74 #[.slice A n c] w (RetNew 5 1 w n (bv xs) (fun A' => A' = none → A = none)) := by
  subst hn
  cases A with
  | none =>
    obtain ⟨rfl, rfl⟩ := hc rfl
    go_enter Try.func74, Try.ntmps74
    go_wp2
    go_ret
    exact ⟨none, 0, rfl, App.refl (World.ownsRow_nil _ _ _ _), by simp⟩
  | some a =>
    go_enter Try.func74, Try.ntmps74
    go_wp2_with (at_builtin; go_loud (refine wpList_appb _ rfl (.tmp 5) (.tmp 6) rfl w.heap.size _ 0 [] rfl (World.ownsRow_lit w #[] 0 (Nat.le_refl _) (by simp [maxLen]) rfl) B _ xs.length c xs rfl rfl (ha.alloc hB _) (by omega) (by simp) ?_))
    intro A' c' w' happ hne
    go_wp2
    go_ret
    exact ⟨A', c', rfl, happ.fresh1, fun h => absurd h hne⟩
theorem spTruth (w : World) (b : Bool) : Calls Try.prog 76 #[.bool b] w fun e w' => e = .returned (.int .i64 (if b = true then 1 else 0)) ∧ w' = w := by
  cases b
  · go_enter Try.func76, Try.ntmps76
    go_wp2
    go_ret
    exact ⟨rfl, rfl⟩
  · go_enter Try.func76, Try.ntmps76
    go_wp2
    go_ret
    exact ⟨rfl, rfl⟩

/-- Append hands back bytes of its own. -/
def AppPost (w : World) (zs : List Int) (s : Sp) (e : Ending) (w' : World) : Prop :=
  Below w.heap.size w w' ∧ ((spChk s ≠ 0 ∧ e = .returned (.tuple #[.slice none 0 0, .int .i64 (spChk s)])) ∨
    (spChk s = 0 ∧ ∃ A' c', e = .returned (.tuple #[.slice A' (zs ++ spEnc s).length c', .int .i64 0]) ∧ Rb w' w'.heap.size A' (zs ++ spEnc s) ∧ (zs ++ spEnc s).length ≤ c' ∧ ∀ a, A' = some a → w.heap.size ≤ a.block))
end Go.Proofs.Ytlamebbolioljaa

/- Spans: the walk of Append. -/
namespace Go.Proofs.Ytlamebbolioljaa
open Go.RowKit

theorem ordsLen (l : List Nat) : (l.flatMap ordEnc).length = l.length * 8 := by
  induction l with
  | nil => rfl
  | cons x l ih => rw [List.flatMap_cons, List.length_append, ih, ordEnc_len, List.length_cons]; omega
theorem own_downK {w : World} {base base' size n : Nat} {e : TypeId} {v : Value} {xs : List Value} (h : w.ownsRow base e size v n xs) (hb : base' ≤ base) : w.ownsRow base' e size v n xs :=
  ⟨h.1, h.2.imp id fun ⟨g, cap, cur, hv, hg, r⟩ => ⟨g, cap, cur, hv, Nat.le_trans hb hg, r⟩⟩
/-- Append's answer: a row of its own. -/
def AppPost2 (w : World) (zs : List Int) (s : Sp) (e : Ending) (w' : World) : Prop :=
  Below w.heap.size w w' ∧ ((spChk s ≠ 0 ∧ e = .returned (.tuple #[.slice none 0 0, .int .i64 (spChk s)])) ∨
    (spChk s = 0 ∧ ∃ A' c', e = .returned (.tuple #[.slice A' (zs ++ spEnc s).length c', .int .i64 0]) ∧ w'.ownsRow w.heap.size 5 1 (.slice A' (zs ++ spEnc s).length c') (zs ++ spEnc s).length (bv (zs ++ spEnc s)) ∧ (zs ++ spEnc s).length ≤ c'))
set_option maxRecDepth 100000 in
set_option maxHeartbeats 4000000 in
theorem spAppend2 {A0 At : Option Addr} {c0 ct B n nt : Nat} {zs : List Int} (s : Sp) (w : World) (ha : Rb w B A0 zs) (hB : B ≤ w.heap.size) (hz : zs.length ≤ 1099511627776) (hc : A0 = none → zs = [] ∧ c0 = 0) (hn : zs.length = n)
    (hf : RbT w B At s.tags) (hnt : s.tags.length = nt) (hnl : nt ≤ 9223372036854775807) (hu : s.U64) :
    Calls Try.prog 53 #[.slice A0 n c0, spV s At nt ct] w (AppPost2 w zs s) := by
  have hb0 : Below w.heap.size w (w.alloc (.cells (spC s At nt ct) 43)) := (Below.refl _ w).alloc (Nat.le_refl _) _
  have hf1 := Rd.alloc hf hB (.cells (spC s At nt ct) 43)
  have ha1 := Rd.alloc ha hB (.cells (spC s At nt ct) 43)
  have bk := Bk.new w 43 (spC s At nt ct)
  have hs1 : (w.alloc (.cells (spC s At nt ct) 43)).heap.size = w.heap.size + 1 := by simp
  obtain ⟨w1, hw1⟩ : ∃ w1, w.alloc (.cells (spC s At nt ct) 43) = w1 := ⟨_, rfl⟩
  rw [hw1] at hb0 hf1 ha1 bk hs1
  have HW := Lib.hid hw1
  have hc1 := spCheck (c := ct) s w1 hf1 hnt (by omega) hnl
  obtain ⟨k, hk⟩ : ∃ k, spChk s = k := ⟨_, rfl⟩
  rw [hk] at hc1
  have HC := Lib.hid hc1
  have HK := Lib.hid hk
  have HN := Lib.hid hn
  have HNT := Lib.hid hnt
  clear hw1 hc1 hk hn hnt
  go_enter Try.func53, Try.ntmps53
  go_wp2_with fail
  rw [HW.out]
  refine HC.out.mono ?_
  rintro e w2 ⟨rfl, hb2⟩
  have hs2 := hb2.size
  have hb02 := hb0.trans (hb2.mono (by omega))
  have hf2 := Rd.below hf1 (hb2.mono (by omega))
  have ha2 := Rd.below ha1 (hb2.mono (by omega))
  have bk2 := bk.below hb2 (by omega)
  clear bk hf1 ha1 hb0 HW hb2 ha hf HC
  by_cases hk0 : k = 0
  case neg =>
    have hk1 : ((k : Int) != 0) = true := by rw [bne_iff_ne]; omega
    go_wp2
    go_ret2
    exact ⟨hb02, .inl ⟨by rw [HK.out]; exact hk0, by rw [HK.out]; rfl⟩⟩
  subst hk0
  -- what Check has seen
  have hk := HK.out
  have hlong : longB s = false := by
    cases h : longB s with
    | false => rfl
    | true => rw [spChk, if_pos h] at hk; cases hk
  have hhead : headB s = true := by
    cases h : headB s with
    | true => rfl
    | false => rw [spChk, if_neg (by rw [hlong]; simp), h] at hk; simp at hk
  simp only [headB, Bool.and_eq_true, Bool.or_eq_true, decide_eq_true_eq, ne_eq] at hhead
  obtain ⟨⟨⟨⟨⟨⟨⟨⟨⟨h0, h1⟩, h2⟩, h3⟩, h4⟩, h5⟩, h6⟩, h7⟩, h8⟩, h9⟩ := hhead
  simp only [longB, Bool.or_eq_false_iff, decide_eq_false_iff_not] at hlong
  obtain ⟨⟨⟨l1, l2⟩, l3⟩, l4⟩ := hlong
  have hnt16 : nt ≤ 16 := by have := HNT.out; omega
  have L4 : Hid (∀ t ∈ s.tags, t.key.size ≤ 128 ∧ t.val.size ≤ 128) := fun t ht => by
    have := List.any_eq_false.1 l4 t ht
    simp [tgLong] at this
    exact this
  have L1 := Lib.hid l1
  have L2 := Lib.hid l2
  have HH := Lib.hid (And.intro h6 (And.intro h7 (And.intro h8 h9)))
  clear hk h0 h1 h2 h3 l1 l2 l3 l4 hnl h8 h9
  obtain ⟨g, hg⟩ : ∃ g, w.heap.size = g := ⟨_, rfl⟩
  have hgl := bk2.lt
  rw [hg] at bk2 hgl ⊢
  have k0 : w2.cell? ⟨g, 0, none⟩ = some (.int .u64 s.hi) := bk2.cell 0
  go_wp2_with fail
  refine (slClone w2 ha2 (by omega) (by omega) hc HN.out).mono ?_
  rintro e w3 ⟨A3, c3, rfl, happ, hne⟩
  have HB : Hid (Bk w2 g 43 (spC s At nt ct)) := bk2
  have HF : Hid (RbT w2 B At s.tags) := hf2
  have HBW := Lib.hid hb02
  have bk3 := bk2.below happ.below0 hgl
  have k0 : w3.cell? ⟨g, 0, none⟩ = some (.int .u64 s.hi) := bk3.cell 0
  have k1 : w3.cell? ⟨g, 1, none⟩ = some (.int .u64 s.lo) := bk3.cell 1
  have k2 : w3.cell? ⟨g, 2, none⟩ = some (.int .u64 s.id) := bk3.cell 2
  have k3 : w3.cell? ⟨g, 3, none⟩ = some (.int .u64 s.parent) := bk3.cell 3
  clear bk2 hf2 hb02 ha2 bk3
  go_wp2_with fail
  have happ4 := happ.alloc (.cells #[.int .u64 s.hi, .int .u64 s.lo, .int .u64 s.id, .int .u64 s.parent] 22)
  have bq := Bk.new w3 22 #[.int .u64 s.hi, .int .u64 s.lo, .int .u64 s.id, .int .u64 s.parent]
  have hq2 : w2.heap.size ≤ w3.heap.size := happ.heap
  have hqa : ∀ a, A3 = some a → a.block < w3.heap.size := fun a ha => (happ.lo a ha).2
  obtain ⟨w4, hw4⟩ : ∃ w4, w3.alloc (.cells #[.int .u64 s.hi, .int .u64 s.lo, .int .u64 s.id, .int .u64 s.parent] 22) = w4 := ⟨_, rfl⟩
  rw [hw4] at happ4 bq ⊢
  obtain ⟨q, hq⟩ : ∃ q, w3.heap.size = q := ⟨_, rfl⟩
  rw [hq] at bq hq2 hqa ⊢
  have hfetch : ∀ j, j < 4 → ∃ x : Nat, [s.hi, s.lo, s.id, s.parent][j]? = some x ∧ x < 18446744073709551616 ∧ (#[.int .u64 s.hi, .int .u64 s.lo, .int .u64 s.id, .int .u64 s.parent] : Array Value)[j]? = some (.int .u64 (x : Nat)) := by
    intro j hj
    obtain ⟨u1, u2, u3, u4⟩ := hu
    match j, hj with
    | 0, _ => exact ⟨_, rfl, u1, rfl⟩
    | 1, _ => exact ⟨_, rfl, u2, rfl⟩
    | 2, _ => exact ⟨_, rfl, u3, rfl⟩
    | 3, _ => exact ⟨_, rfl, u4, rfl⟩
  have HFE := Lib.hid hfetch
  have HQA := Lib.hid hqa
  have HAP := Lib.hid happ4
  clear hfetch hqa hw4 hq happ k0 k1 k2 k3 happ4 hu
  go_loopw [7, 31] (fun v iv_ wr => ∃ (A' : Option Addr) (c' m j : Nat), j ≤ 4 ∧ v = .slice A' m c' ∧ iv_ = .int .i64 j ∧ m = n + j * 8 ∧ App w2.heap.size 5 1 w2 (.slice none 0 0) wr (.slice A' m c') m (bv (zs ++ ([s.hi, s.lo, s.id, s.parent].take j).flatMap ordEnc)) ∧
    Bk wr q 22 #[.int .u64 s.hi, .int .u64 s.lo, .int .u64 s.id, .int .u64 s.parent] ∧ (∀ a, A' = some a → a.block ≠ q)) (fun _ i _ => 4 - (intOf i).toNat)
  case atStart => exact ⟨A3, c3, n, 0, by omega, rfl, rfl, by omega, by simpa using HAP.out, bq, fun a ha => by have := HQA.out a ha; omega⟩
  case round =>
    obtain ⟨A', c', m, j, hj, rfl, rfl, hm, happ, bqr, hfar⟩ := hrel
    have HM := Lib.hid hm
    have hmb : m + 1000 ≤ 140737488355328 := by have := HN.out; omega
    clear hm bq
    by_cases hlt : j < 4
    · have hlt' : (j : Int) < 4 := by omega
      obtain ⟨x, hx1, hx2, hx3⟩ := HFE.out j hlt
      have hcell : wr.cell? ⟨q, j, none⟩ = some (.int .u64 (x : Nat)) := (bqr.cell j).trans hx3
      have HX := Lib.hid hx1
      clear hx1 hx3
      go_wp2_with fail
      refine (wireOrdered wr happ.own happ.heap hx2 (by omega)).mono ?_
      rintro e w5 ⟨A5, c5, rfl, happ5, -⟩
      have h5 := happ.trans happ5
      have e1 : zs ++ ([s.hi, s.lo, s.id, s.parent].take j).flatMap ordEnc ++ ordEnc x = zs ++ ([s.hi, s.lo, s.id, s.parent].take (j + 1)).flatMap ordEnc := by
        rw [take_snoc HX.out, List.flatMap_append, List.flatMap_cons, List.flatMap_nil, List.append_nil, List.append_assoc]
      rw [e1] at h5
      have b5 : Bk w5 q 22 #[.int .u64 s.hi, .int .u64 s.lo, .int .u64 s.id, .int .u64 s.parent] := bqr.grown happ5.grown (fun e => by
        cases A' with
        | none => cases e
        | some a => exact hfar a rfl (Option.some.inj e).symm)
      have f5 : ∀ a, A5 = some a → a.block ≠ q := fun a ha e => by
        subst ha
        rcases happ5.block with h | ⟨r, h1, h2⟩
        · cases A' with
          | none => cases h
          | some b => exact hfar b rfl ((Option.some.inj h).symm.trans e)
        · have := bqr.lt
          have : a.block = r := Option.some.inj h1
          omega
      have HB5 := Lib.hid b5
      have HF5 := Lib.hid f5
      have H5 := Lib.hid h5
      clear e1 happ5 b5 f5 hfar bqr happ h5
      go_wp2
      go_roundw
      case rel => exact ⟨A5, c5, m + 8, j + 1, by omega, rfl, by go_num, by have := HM.out; omega, H5.out, HB5.out, HF5.out⟩
      case measure => simp [intOf]; omega
    · have hlt' : decide ((j : Int) < 4) = false := by simp; omega
      obtain rfl : j = 4 := by omega
      clear hfar bqr HFE HQA HAP
      have e1 : [s.hi, s.lo, s.id, s.parent].take 4 = [s.hi, s.lo, s.id, s.parent] := rfl
      rw [e1] at happ
      obtain ⟨y0, hy0⟩ : ∃ y0, zs ++ [s.hi, s.lo, s.id, s.parent].flatMap ordEnc = y0 := ⟨_, rfl⟩
      rw [hy0] at happ
      have hm0 : m ≤ 1099511627776 + 32 := by have := HM.out; have := HN.out; omega
      have bkr := HB.out.below happ.below0 hgl
      have k4 : wr.cell? ⟨g, 4, none⟩ = some (.string s.service) := bkr.cell 4
      have k5 : wr.cell? ⟨g, 5, none⟩ = some (.string s.name) := bkr.cell 5
      have HY0 := Lib.hid hy0
      clear hy0 bkr HM hmb
      go_wp2_with fail
      refine (spPieces (k := 2) (ls := [s.service, s.name]) _ (happ.own.alloc (.cells #[.string s.service, .string s.name] 9)) (by have := happ.heap; simp; omega) (fun i t ht => ?_) rfl (by simp) ?_ ?_ (by omega)).mono ?_
      · have hb := (Bk.new wr 9 #[.string s.service, .string s.name]).cell i
        rw [hb]
        match i, ht with
        | 0, ht => cases ht; rfl
        | 1, ht => cases ht; rfl
      · intro e
        cases A' with
        | none => cases e
        | some a =>
          have := (happ.own.lt a.block rfl).2
          have : a.block = wr.heap.size := Option.some.inj e
          omega
      · intro t ht
        have := L1.out
        have := L2.out
        simp at ht
        rcases ht with rfl | rfl <;> omega
      rintro e w5 ⟨A5, c5, rfl, happ5, -⟩
      have h5 := (happ.alloc (.cells #[.string s.service, .string s.name] 9)).trans happ5
      have epp : [s.service, s.name].flatMap pie = pie s.service ++ pie s.name := by simp
      rw [epp] at h5 ⊢
      obtain ⟨m5, hm5⟩ : ∃ m5, m + (pie s.service ++ pie s.name).length = m5 := ⟨_, rfl⟩
      have hm5b : m5 ≤ 1099511627776 + 400 := by
        have h1 := pie_len s.service (by have := L1.out; omega)
        have h2 := pie_len s.name (by have := L2.out; omega)
        have := L1.out
        have := L2.out
        rw [← hm5, List.length_append]
        omega
      obtain ⟨y5, hy5⟩ : ∃ y5, y0 ++ (pie s.service ++ pie s.name) = y5 := ⟨_, rfl⟩
      rw [hm5, hy5] at h5
      rw [hm5]
      have HY5 := Lib.hid hy5
      clear hm5 hy5 happ5 happ epp k4 k5 hm0
      have bk5 := HB.out.below h5.below0 hgl
      have k6 : w5.cell? ⟨g, 6, none⟩ = some (.int .i64 s.kind) := bk5.cell 6
      clear bk5
      go_wp2_with (at_builtin; go_loud (refine wpList_appb _ rfl (.tmp 46) (.tmp 50) rfl w2.heap.size _ m5 y5 rfl (h5.own.alloc _) _ _ 1 1 [s.kind] rfl rfl (Rd.lit _ _ _) (by omega) (by have := h5.heap; simp; omega) ?_))
      intro A6 c6 w6 h6' hne6
      have h6 := (h5.alloc (.cells #[.int .u8 s.kind] 5)).trans h6'
      clear h5 h6' hne6 k6
      obtain ⟨y6, hy6⟩ : ∃ y6, y5 ++ [s.kind] = y6 := ⟨_, rfl⟩
      obtain ⟨m6, hm6⟩ : ∃ m6, m5 + 1 = m6 := ⟨_, rfl⟩
      rw [hy6, hm6] at h6
      rw [hm6]
      have hm6b : m6 ≤ 1099511627776 + 401 := by omega
      have HY6 := Lib.hid hy6
      clear hy6 hm6 hm5b
      have bk6 := HB.out.below h6.below0 hgl
      have k7 : w6.cell? ⟨g, 7, none⟩ = some (.int .i64 s.start) := bk6.cell 7
      have k8 : w6.cell? ⟨g, 8, none⟩ = some (.int .i64 s.length) := bk6.cell 8
      obtain ⟨r1, r2, r3, r4⟩ := HH.out
      obtain ⟨a1, ha1⟩ : ∃ a1 : Nat, s.start = a1 := ⟨s.start.toNat, by omega⟩
      obtain ⟨a2, ha2⟩ : ∃ a2 : Nat, s.length = a2 := ⟨s.length.toNat, by omega⟩
      rw [ha1] at k7
      rw [ha2] at k8
      have hl1 := numEnc_u64 (x := a1) (by omega)
      have hl2 := numEnc_u64 (x := a2) (by omega)
      have ha1b : a1 ≤ 4611686018427387903 := by omega
      have ha2b : a2 ≤ 4611686018427387903 := by omega
      have hwr1 : IntKind.u64.wrap (a1 : Int) = (a1 : Int) := IntWalk.u64_in _ ⟨by omega, by omega⟩
      have hwr2 : IntKind.u64.wrap (a2 : Int) = (a2 : Int) := IntWalk.u64_in _ ⟨by omega, by omega⟩
      have hle6 : w2.heap.size ≤ w6.drew.heap.size := h6.heap
      have hx1 : a1 < 18446744073709551616 := by omega
      have hx2 : a2 < 18446744073709551616 := by omega
      have hmb6 : m6 + 10 ≤ 140737488355328 := by omega
      have hmb7 : m6 + (numEnc a1).length + 10 ≤ 140737488355328 := by omega
      have HA1 := Lib.hid ha1
      have HA2 := Lib.hid ha2
      clear bk6 ha1 ha2 r1 r2 r3 r4
      go_wp2_with fail
      go_region_held3 (fun w' => w'.cell? ⟨g, 7, none⟩ = some (.int .i64 a1) ∧ w'.cell? ⟨g, 8, none⟩ = some (.int .i64 a2)) (go_keep)
        (first
          | (go_at_call_of 62 (Value.int .u64 (a1 : Nat))
             refine (wireNumber (base := w2.heap.size) (x := a1) (xs := y6) _ h6.drew.own hle6 hx1 hmb6).mono ?_
             rintro e w7 ⟨A7, c7, rfl, happ7, -⟩
             have h7 := (h6.drew).trans happ7
             have k7' : w7.cell? ⟨g, 7, none⟩ = some (.int .i64 a1) := ((HB.out.below h7.below0 hgl).cell 7).trans (by rw [← HA1.out]; rfl)
             have k8' : w7.cell? ⟨g, 8, none⟩ = some (.int .i64 a2) := ((HB.out.below h7.below0 hgl).cell 8).trans (by rw [← HA2.out]; rfl))
          | (go_at_call_of 62 (Value.int .u64 (a2 : Nat))
             refine (wireNumber (base := w2.heap.size) (x := a2) (xs := y6 ++ numEnc a1) _ h7.own h7.heap hx2 hmb7).mono ?_
             rintro e w8 ⟨A8, c8, rfl, happ8, -⟩
             have h8 := h7.trans happ8
             have k7b : w8.cell? ⟨g, 7, none⟩ = some (.int .i64 a1) := ((HB.out.below h8.below0 hgl).cell 7).trans (by rw [← HA1.out]; rfl)
             have k8b : w8.cell? ⟨g, 8, none⟩ = some (.int .i64 a2) := ((HB.out.below h8.below0 hgl).cell 8).trans (by rw [← HA2.out]; rfl))
          | fail)
      obtain ⟨y8, hy8⟩ : ∃ y8, y6 ++ numEnc a1 ++ numEnc a2 = y8 := ⟨_, rfl⟩
      obtain ⟨m8, hm8⟩ : ∃ m8, m6 + (numEnc a1).length + (numEnc a2).length = m8 := ⟨_, rfl⟩
      rw [hy8, hm8] at h8
      rw [hm8]
      have hm8b : m8 ≤ 1099511627776 + 421 := by omega
      have HY8 := Lib.hid hy8
      clear hy8 hm8 hm6b h6 h7 happ7 happ8 k7 k8 k7' k8' k7b k8b hl1 hl2 hmb6 hmb7 hle6 hwr1 hwr2 hx1 hx2 ha1b ha2b
      obtain ⟨fv, hfv⟩ : ∃ fv : Int, (if s.fails = true then 1 else 0) = fv := ⟨_, rfl⟩
      have hfv0 : 0 ≤ fv := by rw [← hfv]; split <;> omega
      have hfv1 : fv ≤ 1 := by rw [← hfv]; split <;> omega
      have hwru : IntKind.u8.wrap fv = fv := by rw [IntKind.wrap_u8]; omega
      have hT := fun W => spTruth W s.fails
      rw [hfv] at hT
      have HFV := Lib.hid hfv
      have bk8 := HB.out.below h8.below0 hgl
      have k9 : w8.cell? ⟨g, 9, none⟩ = some (.bool s.fails) := bk8.cell 9
      have k10 : w8.cell? ⟨g, 10, none⟩ = some (.slice At nt ct) := bk8.cell 10
      have hwr3 : IntKind.u64.wrap (nt : Int) = (nt : Int) := IntWalk.u64_in _ ⟨by omega, by omega⟩
      have hx3 : nt < 18446744073709551616 := by omega
      have hl3 := numEnc_u64 hx3
      have hmb8 : m8 + 1 ≤ 140737488355328 := by omega
      have hmb9 : m8 + 1 + 10 ≤ 140737488355328 := by omega
      have h8a := (h8.alloc (.cells #[.int .u8 fv] 5)).drew
      have hle8 : w2.heap.size ≤ (w8.alloc (.cells #[.int .u8 fv] 5)).drew.heap.size := h8a.heap
      clear bk8 hfv
      go_wp2_with fail
      go_region_held3 (fun w' => w'.cell? ⟨g, 9, none⟩ = some (.bool s.fails) ∧ w'.cell? ⟨g, 10, none⟩ = some (.slice At nt ct)) (go_keep)
        (first
          | (go_at_call 76
             refine (hT _).mono ?_
             rintro e w9 ⟨rfl, hw9⟩
             rw [hw9]
             clear hw9 w9)
          | (refine step_appb (by rfl) (.tmp 61) (.tmp 66) (by rfl) w2.heap.size (.slice A8 m8 c8) m8 y8 (by rfl) h8a.own _ _ 1 1 [fv] (by rfl) (by rfl) (Rd.lit w8 _ _) hmb8 hle8 ?_
             intro A9 c9 w9 happ9 _
             have h9 := h8a.trans happ9
             have k9b : w9.cell? ⟨g, 9, none⟩ = some (.bool s.fails) := (HB.out.below h9.below0 hgl).cell 9
             have k10b : w9.cell? ⟨g, 10, none⟩ = some (.slice At nt ct) := (HB.out.below h9.below0 hgl).cell 10)
          | (go_at_call 62
             refine (wireNumber (base := w2.heap.size) (x := nt) (xs := y8 ++ [fv]) _ h9.own h9.heap hx3 hmb9).mono ?_
             rintro e w10 ⟨A10, c10, rfl, happ10, -⟩
             have h10 := h9.trans happ10
             have k9c : w10.cell? ⟨g, 9, none⟩ = some (.bool s.fails) := (HB.out.below h10.below0 hgl).cell 9
             have k10c : w10.cell? ⟨g, 10, none⟩ = some (.slice At nt ct) := (HB.out.below h10.below0 hgl).cell 10)
          | fail)
      obtain ⟨y10, hy10⟩ : ∃ y10, y8 ++ [fv] ++ numEnc nt = y10 := ⟨_, rfl⟩
      obtain ⟨m10, hm10⟩ : ∃ m10, m8 + 1 + (numEnc nt).length = m10 := ⟨_, rfl⟩
      rw [hy10, hm10] at h10
      rw [hm10]
      have hm10b : m10 ≤ 1099511627776 + 432 := by omega
      have HY10 := Lib.hid hy10
      have HH10 := Lib.hid h10
      clear hy10 hm10 hm8b h8 h9 h8a happ9 happ10 k9 k10 k9b k9c k10b hl3 hmb8 hmb9 hle8 hwr3 hwru hx3 hT hfv0 hfv1 h10
      go_wp2_with fail
      go_loopw [7, 76] (fun v iv_ wr => ∃ (A' : Option Addr) (c' m j : Nat), j ≤ nt ∧ v = .slice A' m c' ∧ iv_ = .int .i64 j ∧ m ≤ m10 + j * 300 ∧ App w2.heap.size 5 1 w2 (.slice none 0 0) wr (.slice A' m c') m (bv (y10 ++ (s.tags.take j).flatMap tgEnc))) (fun _ i _ => nt - (intOf i).toNat)
      case atStart => exact ⟨A10, c10, m10, 0, by omega, rfl, rfl, by omega, by simpa using HH10.out⟩
      case round =>
        clear k10c
        obtain ⟨A', c', m, j, hj, rfl, rfl, hm, happ⟩ := hrel
        have hmb : m ≤ 1099511627776 + 6000 := by omega
        by_cases hlt : j < nt
        · have hlt' : (j : Int) < (nt : Int) := by omega
          obtain ⟨x, hx⟩ : ∃ x, s.tags[j]? = some x := ⟨_, List.getElem?_eq_getElem (by rw [HNT.out]; exact hlt)⟩
          have hsx := L4.out x (List.mem_of_getElem? hx)
          obtain ⟨b, o, e', hbb, c1, c2⟩ := RbT.get (Rd.below HF.out (happ.below0.mono (by omega))) hx
          cases e'
          have HX := Lib.hid hx
          clear hx
          have ha2 := (happ.alloc (.cells #[.string x.key, .string x.val] 97)).alloc (.cells #[.string x.key, .string x.val] 9)
          have hrow : (Value.slice A' m c').ownBlock ≠ some (wr.heap.size + 1) := fun e => by
            cases A' with
            | none => cases e
            | some a =>
              have h1 := (happ.own.lt a.block rfl).2
              have h2 : a.block = wr.heap.size + 1 := Option.some.inj e
              omega
          have bb : Bk ((wr.alloc (.cells #[.string x.key, .string x.val] 97)).alloc (.cells #[.string x.key, .string x.val] 9)) (wr.heap.size + 1) 9 #[.string x.key, .string x.val] := by
            have h := Bk.new (wr.alloc (.cells #[.string x.key, .string x.val] 97)) 9 #[.string x.key, .string x.val]
            simpa using h
          have hcells : ∀ (i : Nat) (t : ByteArray), [x.key, x.val][i]? = some t → ((wr.alloc (.cells #[.string x.key, .string x.val] 97)).alloc (.cells #[.string x.key, .string x.val] 9)).cell? ⟨wr.heap.size + 1, i, none⟩ = some (.string t) := fun i t ht => by
            rw [bb.cell i]
            match i, ht with
            | 0, ht => cases ht; rfl
            | 1, ht => cases ht; rfl
          have hsz : ∀ t ∈ [x.key, x.val], t.size ≤ 1048576 := fun t ht => by
            simp at ht
            rcases ht with rfl | rfl <;> omega
          have hp := spPieces (k := 2) (c1 := 2) (ls := [x.key, x.val]) _ ha2.own ha2.heap hcells rfl bb.lt hrow hsz (by omega)
          have HP := Lib.hid hp
          have HA2 := Lib.hid ha2
          clear hp hrow bb hcells hsz ha2
          go_wp2_with fail
          refine HP.out.mono ?_
          rintro e w12 ⟨A12, c12, rfl, happ12, -⟩
          have h12 := HA2.out.trans happ12
          have e1 : [x.key, x.val].flatMap pie = tgEnc x := by simp [tgEnc]
          have e2 : y10 ++ (s.tags.take j).flatMap tgEnc ++ tgEnc x = y10 ++ (s.tags.take (j + 1)).flatMap tgEnc := by
            rw [take_snoc HX.out, List.flatMap_append, List.flatMap_cons, List.flatMap_nil, List.append_nil, List.append_assoc]
          rw [e1, e2] at h12
          rw [e1]
          have hl12 : (tgEnc x).length ≤ 300 := by
            have h1 := pie_len x.key (by omega)
            have h2 := pie_len x.val (by omega)
            rw [tgEnc, List.length_append]
            omega
          obtain ⟨m12, hm12⟩ : ∃ m12, m + (tgEnc x).length = m12 := ⟨_, rfl⟩
          rw [hm12] at h12 ⊢
          have hm12b : m12 ≤ m10 + (j + 1) * 300 := by omega
          clear e1 e2 hl12 hm12 happ12 c1 c2
          go_wp2
          go_roundw
          case rel => exact ⟨A12, c12, m12, j + 1, by omega, rfl, by go_num, hm12b, h12⟩
          case measure => simp [intOf]; omega
        · have hlt' : decide ((j : Int) < (nt : Int)) = false := by simp; omega
          obtain rfl : j = nt := by omega
          have e1 : s.tags.take j = s.tags := List.take_of_length_le (by rw [HNT.out]; omega)
          rw [e1] at happ
          have hy : y10 ++ s.tags.flatMap tgEnc = zs ++ spEnc s := by
            have hk : s.kind % 256 = s.kind := by omega
            rw [← HY10.out, ← HY8.out, ← HY6.out, ← HY5.out, ← HY0.out, spEnc, spHead, hk, ← HFV.out, HNT.out, HA1.out, HA2.out]
            simp
          rw [hy] at happ
          have hml : m = (zs ++ spEnc s).length := by
            have := own_length happ.own
            rw [bv_length] at this
            exact this.symm
          have HML := Lib.hid hml
          have HAPP := Lib.hid happ
          clear hy hml e1
          go_wp2
          go_ret2
          have happ := HAPP.out
          have hml := HML.out
          refine ⟨HBW.out.trans (happ.below0.mono (by omega)), .inr ⟨HK.out, A', c', by rw [← hml]; rfl, by rw [← hml]; exact own_downK happ.own (by omega), by rw [← hml]; exact happ.cap⟩⟩
theorem spAppend {A0 At : Option Addr} {c0 ct B n nt : Nat} {zs : List Int} (s : Sp) (w : World) (ha : Rb w B A0 zs) (hB : B ≤ w.heap.size) (hz : zs.length ≤ 1099511627776) (hc : A0 = none → zs = [] ∧ c0 = 0) (hn : zs.length = n)
    (hf : RbT w B At s.tags) (hnt : s.tags.length = nt) (hnl : nt ≤ 9223372036854775807) (hu : s.U64) :
    Calls Try.prog 53 #[.slice A0 n c0, spV s At nt ct] w (AppPost w zs s) :=
  (spAppend2 s w ha hB hz hc hn hf hnt hnl hu).mono fun _ _ ⟨hb, h⟩ => ⟨hb, h.imp id fun ⟨hk, A', c', he, ho, hcap⟩ => ⟨hk, A', c', he, Rd.of_own ho, hcap, fun a ha => by subst ha; exact (ho.lt a.block rfl).1⟩⟩
end Go.Proofs.Ytlamebbolioljaa

/- Adjusted spans: what they are, as they lie; schema.Span. -/
namespace Go.Proofs.Ytlamebbolioljaa
open Go.RowKit
theorem loadSp_shut (a : Addr) : loadVar 43 a = loadK 43 a := rfl
attribute [local go_sem ↓] loadSp_shut

structure Ad where
  s : Sp
  up : Nat
  shift : Int
  flag : Int
abbrev adC (a : Ad) (A : Option Addr) (n c : Nat) : Array Value := #[.int .u64 a.s.hi, .int .u64 a.s.lo, .int .u64 a.s.id, .int .u64 a.s.parent, .string a.s.service, .string a.s.name, .int .i64 a.s.kind, .int .i64 a.s.start, .int .i64 a.s.length, .bool a.s.fails, .slice A n c, .int .u64 a.up, .int .i64 a.shift, .int .i64 a.flag]
abbrev adV (a : Ad) (A : Option Addr) (n c : Nat) : Value := .agg (adC a A n c)
/-- A shift, as it is put. -/
def shU (x : Int) : Nat := (x + 9223372036854775808).toNat
theorem shU_wrap {x : Int} (h0 : -9223372036854775808 ≤ x) (h1 : x ≤ 9223372036854775807) : IntKind.u64.wrap (IntKind.u64.wrap x + 9223372036854775808) = (shU x : Int) := by
  rw [IntKind.wrap_u64, IntKind.wrap_u64]
  unfold shU
  omega
theorem shU_lt {x : Int} (h1 : x ≤ 9223372036854775807) : shU x < 18446744073709551616 := by unfold shU; omega
def adEnc (a : Ad) : List Int := spEnc a.s ++ itsEnc [.inl a.up, .inl (shU a.shift)] ++ [a.flag % 256]
def adChk (a : Ad) : Nat := if spChk a.s ≠ 0 then spChk a.s else if a.flag < 0 ∨ 2 < a.flag then 2 else 0
def adOut (a : Ad) : List Int × Nat := if adChk a = 0 then (adEnc a, 0) else ([], adChk a)
def Ad.Ok (a : Ad) : Prop := a.s.U64 ∧ a.up < 18446744073709551616 ∧ -9223372036854775808 ≤ a.shift ∧ a.shift ≤ 9223372036854775807
theorem run_loadVar_cellsK {P : Program} (w : World) (ty : TypeId) (d : TypeDesc) (a : Addr) (xs : List Value) (hu : P.underlying ty = some d) (hd : (match d with | .struct _ | .array _ _ => true | _ => false) = true) (hi : (P.info? ty).map (·.size) = some xs.length)
    (hc : ∀ j v, xs[j]? = some v → w.cell? (a.add j) = some v) : (loadVar ty a).run P w = .ok (.agg xs.toArray) w := by
  have hl := run_loadCells_list (P := P) w a xs hc
  cases hq : P.info? ty with
  | none => simp [hq] at hi
  | some i =>
    have hs : i.size = xs.length := by simpa [hq] using hi
    have hagg : (isAgg ty).run P w = .ok true w := by
      unfold isAgg
      rw [Sem.run_bind, run_underlying hu w]
      cases d <;> simp_all
    simp [loadVar, Sem.run_bind, hagg, sizeOf, typeInfo, hq, hs, hl]
set_option maxRecDepth 100000 in
theorem loadK_adSp {w : World} {g n c : Nat} {a : Ad} {A : Option Addr} (h : Bk w g 45 (adC a A n c)) : (loadK 43 ⟨g, 0, none⟩).run Try.prog w = .ok (spV a.s A n c) w :=
  run_loadVar_cellsK w _ _ ⟨g, 0, none⟩ (spC a.s A n c).toList Try.underlying43 rfl (by rfl) (fun j v hv => by
    have hj : j < 11 := (List.getElem?_eq_some_iff.1 hv).1
    rw [Addr.add_lit, Nat.zero_add, h.cell j, ← hv]
    have h14 : ∀ j, j < 11 → (adC a A n c)[j]? = (spC a.s A n c).toList[j]? := by
      intro j hj
      have : j = 0 ∨ j = 1 ∨ j = 2 ∨ j = 3 ∨ j = 4 ∨ j = 5 ∨ j = 6 ∨ j = 7 ∨ j = 8 ∨ j = 9 ∨ j = 10 := by omega
      rcases this with rfl | rfl | rfl | rfl | rfl | rfl | rfl | rfl | rfl | rfl | rfl <;> rfl
    exact h14 j hj)
theorem step_appK {w : World} {ops : Array Oper} {o : Oper} {a : Act} {K : Act → World → Prop} {Q : Exit → Act → World → Prop} {E : Prop} (hgd : o.guard = none) (s x : Operand)
    (ho : o.op = .call { callee := .builtin .append, args := #[s, x], argTypes := #[27, 27] })
    (base : Nat) (v : Value) (n : Nat) (xs : List Int) (hs : a.eval s = v) (hown : w.ownsRow base 5 1 v n (bv xs))
    (B : Nat) (A : Option Addr) (m c : Nat) (news : List Int) (hx : a.eval x = .slice A m c) (hl : news.length = m) (hr : Rb w B A news)
    (hbytes : n + m ≤ 140737488355328) (hbase : base ≤ w.heap.size)
    (h : ∀ A' c' w', App base 5 1 w v w' (.slice A' (n + m) c') (n + m) (bv (xs ++ news)) → (A' = none → v = .slice none 0 0 ∧ m = 0) → K (a.put o.dst (.slice A' (n + m) c')) w') :
    if Region.wanted o (yielded ops a.tmps) = true then Oper.wp Try.prog o a w K Q else E := by
  have hw : Region.wanted o (yielded ops a.tmps) = true := by simp [Region.wanted, hgd]
  rw [if_pos hw]
  obtain ⟨i0, hi0, hz0, hz1, hz2⟩ := info_parts u8info
  refine wp_app w s x _ ho base 5 i0 _ 1 1 Try.underlying27 hi0 hz0 hz1 hz2 rfl (by omega) v n (bv xs) hs hown B A m c (bv news) hx (by rw [bv_length]; omega) hr (bv_one news) (by simp only [maxLen]; omega) (by omega) hbase ?_
  intro A' c' w' h1 h2 h3 h4
  rw [← bv_append] at h1
  exact h A' c' w' ((App.refl hown).step h1 h2 h3) h4
theorem Rd.block4 {w w' : World} {B b : Nat} {xs : List Value} (h : Rd w B (some ⟨b, 0, none⟩) xs) {row : Option Nat} (hg : w.grownBy w' row) (hB : B ≤ w.heap.size) (hr : row ≠ some b) : Rd w' B (some ⟨b, 0, none⟩) xs := fun hn => by
  obtain ⟨b', o, e, hb, hc⟩ := h hn
  cases e
  exact ⟨b, 0, rfl, hb, fun j u hu => (World.cell?_of_block (a := ⟨b, 0 + j, none⟩) (hg.block b (by omega) (fun e => hr e.symm))).trans (hc j u hu)⟩
theorem pie_small {s : ByteArray} (h : s.size ≤ 128) : (pie s).length ≤ 138 := by have := pie_len s (by omega); omega
theorem spEnc_small {s : Sp} (hc : spChk s = 0) : (spEnc s).length ≤ 100000 := by
  unfold spChk at hc
  by_cases h1 : longB s = true
  · rw [if_pos h1] at hc; omega
  rw [if_neg h1] at hc
  cases h2 : (headB s && tagsOk s.tags s.tags.length) with
  | false => rw [h2] at hc; simp at hc
  | true =>
  rw [Bool.and_eq_true] at h2
  have hh := h2.1
  unfold headB at hh
  simp only [Bool.and_eq_true, decide_eq_true_eq] at hh
  obtain ⟨⟨⟨⟨-, b1⟩, b2⟩, b3⟩, b4⟩ := hh
  simp only [longB, Bool.or_eq_true, decide_eq_true_eq, not_or, Bool.not_eq_true] at h1
  obtain ⟨⟨⟨c1, c2⟩, c3⟩, c4⟩ := h1
  have d1 := pie_small (s := s.service) (by omega)
  have d2 := pie_small (s := s.name) (by omega)
  have d3 := numEnc_u64 (x := s.start.toNat) (by omega)
  have d4 := numEnc_u64 (x := s.length.toNat) (by omega)
  have d5 := numEnc_u64 (x := s.tags.length) (by omega)
  have d6 : ∀ l : List Tg, (∀ x ∈ l, tgLong x = false) → (l.flatMap tgEnc).length ≤ l.length * 276 := by
    intro l
    induction l with
    | nil => intro _; simp
    | cons x l ih =>
      intro h
      have h1 := ih fun y hy => h y (by simp [hy])
      have h2 := h x (by simp)
      simp only [tgLong, Bool.or_eq_false_iff, decide_eq_false_iff_not] at h2
      have h3 := pie_small (s := x.key) (by omega)
      have h4 := pie_small (s := x.val) (by omega)
      simp only [List.flatMap_cons, List.length_append, tgEnc, List.length_cons]
      omega
  have d7 := d6 s.tags (fun x hx => by
    have := List.any_eq_false.1 c4 x hx
    simpa using this)
  have d8 : ([s.hi, s.lo, s.id, s.parent].flatMap ordEnc).length = 32 := by simp [ordEnc_len]
  simp only [spEnc, spHead, List.length_append, List.length_cons, List.length_nil]
  omega
set_option maxRecDepth 100000 in
set_option maxHeartbeats 4000000 in
theorem scSpan {At : Option Addr} {ct B nt : Nat} (a : Ad) (w : World) (hf : RbT w B At a.s.tags) (hB : B ≤ w.heap.size) (hnt : a.s.tags.length = nt) (hnl : nt ≤ 9223372036854775807) (hu : a.Ok) :
    Calls Try.prog 24 #[adV a At nt ct] w (KeyMade w (adOut a)) := by
  have hb0 : Below w.heap.size w (w.alloc (.cells (adC a At nt ct) 45)) := (Below.refl _ w).alloc (Nat.le_refl _) _
  have bk := Bk.new w 45 (adC a At nt ct)
  have hf1 := Rd.alloc hf hB (.cells (adC a At nt ct) 45)
  obtain ⟨w1, hw1⟩ : ∃ w1, w.alloc (.cells (adC a At nt ct) 45) = w1 := ⟨_, rfl⟩
  rw [hw1] at hb0 bk hf1
  obtain ⟨g, hg⟩ : ∃ g, w.heap.size = g := ⟨_, rfl⟩
  rw [hg] at bk
  have HW := Lib.hid hw1
  have HG := Lib.hid hg
  have HB0 := Lib.hid hb0
  have la := loadK_adSp bk
  have hB1 : B ≤ w1.heap.size := Nat.le_trans hB hb0.size
  have ca := spAppend2 (A0 := none) (c0 := 0) (B := B) (n := 0) (zs := []) (ct := ct) a.s w1 Rd.nil hB1 (by simp) (fun _ => ⟨rfl, rfl⟩) rfl hf1 hnt hnl hu.1
  obtain ⟨r, hr⟩ : ∃ r, adOut a = r := ⟨_, rfl⟩
  rw [hr]
  obtain ⟨q, hq⟩ : ∃ q, spChk a.s = q := ⟨_, rfl⟩
  unfold AppPost2 at ca
  rw [hq] at ca
  simp only [List.nil_append] at ca
  have CA := Lib.hid ca
  clear hw1 hg hb0 hf1 ca hf hB hB1
  by_cases hq0 : q = 0
  case neg =>
    have HR : Hid (r = ([], q)) := by
      rw [← hr, adOut, adChk, hq, if_pos hq0, if_neg hq0]
      exact Lib.hid rfl
    have d : ((q : Int) != 0) = true := by rw [bne_iff_ne]; omega
    have HQ := Lib.hid hq0
    clear hr hq hq0
    go_enter Try.func24, Try.ntmps24
    go_upto_region 1 with fail
    rw [HW.out, HG.out]
    go_wp2_with fail
    refine CA.out.mono ?_
    rintro e w2 ⟨hb2, h2⟩
    rcases h2 with ⟨-, rfl⟩ | ⟨h, -⟩
    · go_wp2
      go_ret2
      exact .no HR.out rfl (HB0.out.trans (hb2.mono HB0.out.size))
    · exact absurd h HQ.out
  case pos =>
    subst hq0
    have HQ := Lib.hid hq
    go_enter Try.func24, Try.ntmps24
    go_upto_region 1 with fail
    rw [HW.out, HG.out]
    go_wp2_with fail
    refine CA.out.mono ?_
    rintro e w2 ⟨hb2, h2⟩
    rcases h2 with ⟨h, -⟩ | ⟨-, A2, c2, rfl, ho2, hc2⟩
    · exact absurd rfl h
    have bk2 := bk.bS hb2
    have hbw := HB0.out.trans (hb2.mono HB0.out.size)
    obtain ⟨e0, he0⟩ : ∃ e0, spEnc a.s = e0 := ⟨_, rfl⟩
    rw [he0] at ho2 hc2 ⊢
    have k13 : w2.cell? ⟨g, 13, none⟩ = some (.int .i64 a.flag) := bk2.cell 13
    have hcs : (a.flag < 0 ∧ r = ([], 2)) ∨ (0 ≤ a.flag ∧ 2 < a.flag ∧ r = ([], 2)) ∨ (0 ≤ a.flag ∧ a.flag ≤ 2 ∧ r = (adEnc a, 0)) := by
      have h0 : ¬ (0 : Nat) ≠ 0 := by simp
      by_cases h1 : a.flag < 0
      · have hc : adChk a = 2 := by rw [adChk, hq, if_neg h0, if_pos (Or.inl h1)]
        exact .inl ⟨h1, by rw [← hr, adOut, hc, if_neg (by omega)]⟩
      · by_cases h2 : 2 < a.flag
        · have hc : adChk a = 2 := by rw [adChk, hq, if_neg h0, if_pos (Or.inr h2)]
          exact .inr (.inl ⟨by omega, h2, by rw [← hr, adOut, hc, if_neg (by omega)]⟩)
        · have hc : adChk a = 0 := by rw [adChk, hq, if_neg h0, if_neg (by omega)]
          exact .inr (.inr ⟨by omega, by omega, by rw [← hr, adOut, if_pos hc]⟩)
    have HE0 := Lib.hid he0
    have HGL := Lib.hid bk.lt
    have HW12 := Lib.hid hb2.size
    clear la hb2 hr hq CA bk he0
    rcases hcs with ⟨h1, he⟩ | ⟨h1, h2, he⟩ | ⟨h1, h2, he⟩
    · have HR := Lib.hid he
      clear he
      go_wp2
      go_ret2
      exact .no HR.out rfl hbw
    · have HR := Lib.hid he
      clear he
      go_wp2
      go_ret2
      exact .no HR.out rfl hbw
    · have HR := Lib.hid he
      clear he
      have hgl : g < w2.heap.size := bk2.lt
      have cells : ∀ W : World, Bk W g 45 (adC a At nt ct) → W.cell? ⟨g, 11, none⟩ = some (.int .u64 a.up) ∧ W.cell? ⟨g, 12, none⟩ = some (.int .i64 a.shift) ∧ W.cell? ⟨g, 13, none⟩ = some (.int .i64 a.flag) := fun W h => ⟨h.cell 11, h.cell 12, h.cell 13⟩
      obtain ⟨p0, p1, p2⟩ := cells w2.drew bk2.drew
      obtain ⟨p3, p4, p5⟩ := cells _ (bk2.alloc (.cells #[.iface 22 (.int .u64 a.up), .iface 22 (.int .u64 (IntKind.u64.wrap (IntKind.u64.wrap a.shift + 9223372036854775808)))] 20)).drew
      obtain ⟨p6, p7, p8⟩ := cells _ (bk2.alloc (.cells #[.int .u8 (a.flag)] 5)).drew
      obtain ⟨p9, p10, p11⟩ := cells _ ((bk2.alloc (.cells #[.iface 22 (.int .u64 a.up), .iface 22 (.int .u64 (IntKind.u64.wrap (IntKind.u64.wrap a.shift + 9223372036854775808)))] 20)).alloc (.cells #[.int .u8 (a.flag)] 5)).drew
      obtain ⟨p12, p13, p14⟩ := cells _ ((bk2.alloc (.cells #[.int .u8 (a.flag)] 5)).alloc (.cells #[.iface 22 (.int .u64 a.up), .iface 22 (.int .u64 (IntKind.u64.wrap (IntKind.u64.wrap a.shift + 9223372036854775808)))] 20)).drew
      obtain ⟨y, hy⟩ : ∃ y, shU a.shift = y := ⟨_, rfl⟩
      have hsh := shU_wrap hu.2.2.1 hu.2.2.2
      rw [hy] at hsh
      have hylt : y < 18446744073709551616 := by rw [← hy]; exact shU_lt hu.2.2.2
      have hl2 : Rd (w2.alloc (.cells #[.iface 22 (.int .u64 a.up), .iface 22 (.int .u64 (IntKind.u64.wrap (IntKind.u64.wrap a.shift + 9223372036854775808)))] 20)) (w2.heap.size + 1) (some ⟨w2.heap.size, 0, none⟩) (ifs [.inl a.up, .inl y]) := by
        show Rd _ _ _ [.iface 22 (.int .u64 a.up), .iface 22 (.int .u64 (y : Int))]
        rw [← hsh]
        exact Rd.lit w2 #[.iface 22 (.int .u64 a.up), .iface 22 (.int .u64 (IntKind.u64.wrap (IntKind.u64.wrap a.shift + 9223372036854775808)))] _
      have hl12 : Rd ((w2.alloc (.cells #[.int .u8 (a.flag)] 5)).alloc (.cells #[.iface 22 (.int .u64 a.up), .iface 22 (.int .u64 (IntKind.u64.wrap (IntKind.u64.wrap a.shift + 9223372036854775808)))] 20)) (w2.heap.size + 1 + 1) (some ⟨w2.heap.size + 1, 0, none⟩) (ifs [.inl a.up, .inl y]) := by
        show Rd _ _ _ [.iface 22 (.int .u64 a.up), .iface 22 (.int .u64 (y : Int))]
        rw [← hsh]
        exact Rd.lit' (w := w2.alloc (.cells #[.int .u8 (a.flag)] 5)) (cs := #[.iface 22 (.int .u64 a.up), .iface 22 (.int .u64 (IntKind.u64.wrap (IntKind.u64.wrap a.shift + 9223372036854775808)))]) (by simp)
      have hfine : ∀ x ∈ ([.inl a.up, .inl y] : List It), itFine x := by
        intro x hx
        simp at hx
        rcases hx with rfl | rfl
        · exact hu.2.1
        · exact hylt
      have hsep : ∀ k, Sep A2 (some ⟨w2.heap.size + k, 0, none⟩) := fun k x b hx hb e => by
        subst hx
        cases hb
        have h1 := (ho2.lt x.block rfl).2
        have h2 : x.block = w2.heap.size + k := e
        omega
      have hg1 : g < w1.heap.size := HGL.out
      have hw12 : w1.heap.size ≤ w2.heap.size := HW12.out
      have hrowg : (Value.slice A2 e0.length c2).ownBlock ≠ some g := fun e => by have h := (ho2.lt g e).1; omega
      have hrown : ∀ k, (Value.slice A2 e0.length c2).ownBlock ≠ some (w2.heap.size + k) := fun k e => by have h := (ho2.lt _ e).2; omega
      have hel : e0.length ≤ 1099511620000 := by rw [← HE0.out]; have := spEnc_small HQ.out; omega
      have cp1 := scPack (l := [.inl a.up, .inl y]) (k := 2) (c1 := 2) (w2.alloc (.cells #[.iface 22 (.int .u64 a.up), .iface 22 (.int .u64 (IntKind.u64.wrap (IntKind.u64.wrap a.shift + 9223372036854775808)))] 20)).drew (show (w2.alloc (.cells #[.iface 22 (.int .u64 a.up), .iface 22 (.int .u64 (IntKind.u64.wrap (IntKind.u64.wrap a.shift + 9223372036854775808)))] 20)).drew.ownsRow w1.heap.size 5 1 (.slice A2 e0.length c2) e0.length (bv e0) from ho2.alloc _) (show w1.heap.size ≤ (w2.alloc (.cells #[.iface 22 (.int .u64 a.up), .iface 22 (.int .u64 (IntKind.u64.wrap (IntKind.u64.wrap a.shift + 9223372036854775808)))] 20)).heap.size by first | (simp; done) | (simp; omega)) hl2.drew (show w2.heap.size + 1 ≤ (w2.alloc (.cells #[.iface 22 (.int .u64 a.up), .iface 22 (.int .u64 (IntKind.u64.wrap (IntKind.u64.wrap a.shift + 9223372036854775808)))] 20)).heap.size by simp) (hsep 0) hfine rfl (by omega) hel
      have cp2 := scPack (l := [.inl a.up, .inl y]) (k := 2) (c1 := 2) ((w2.alloc (.cells #[.iface 22 (.int .u64 a.up), .iface 22 (.int .u64 (IntKind.u64.wrap (IntKind.u64.wrap a.shift + 9223372036854775808)))] 20)).alloc (.cells #[.int .u8 (a.flag)] 5)).drew (show ((w2.alloc (.cells #[.iface 22 (.int .u64 a.up), .iface 22 (.int .u64 (IntKind.u64.wrap (IntKind.u64.wrap a.shift + 9223372036854775808)))] 20)).alloc (.cells #[.int .u8 (a.flag)] 5)).drew.ownsRow w1.heap.size 5 1 (.slice A2 e0.length c2) e0.length (bv e0) from (ho2.alloc _).alloc _) (show w1.heap.size ≤ ((w2.alloc (.cells #[.iface 22 (.int .u64 a.up), .iface 22 (.int .u64 (IntKind.u64.wrap (IntKind.u64.wrap a.shift + 9223372036854775808)))] 20)).alloc (.cells #[.int .u8 (a.flag)] 5)).heap.size by first | (simp; done) | (simp; omega)) (hl2.alloc (by first | (simp; done) | (simp; omega)) _).drew (show w2.heap.size + 1 ≤ ((w2.alloc (.cells #[.iface 22 (.int .u64 a.up), .iface 22 (.int .u64 (IntKind.u64.wrap (IntKind.u64.wrap a.shift + 9223372036854775808)))] 20)).alloc (.cells #[.int .u8 (a.flag)] 5)).heap.size by first | (simp; done) | (simp; omega)) (hsep 0) hfine rfl (by omega) hel
      have cp3 := scPack (l := [.inl a.up, .inl y]) (k := 2) (c1 := 2) ((w2.alloc (.cells #[.int .u8 (a.flag)] 5)).alloc (.cells #[.iface 22 (.int .u64 a.up), .iface 22 (.int .u64 (IntKind.u64.wrap (IntKind.u64.wrap a.shift + 9223372036854775808)))] 20)).drew (show ((w2.alloc (.cells #[.int .u8 (a.flag)] 5)).alloc (.cells #[.iface 22 (.int .u64 a.up), .iface 22 (.int .u64 (IntKind.u64.wrap (IntKind.u64.wrap a.shift + 9223372036854775808)))] 20)).drew.ownsRow w1.heap.size 5 1 (.slice A2 e0.length c2) e0.length (bv e0) from (ho2.alloc _).alloc _) (show w1.heap.size ≤ ((w2.alloc (.cells #[.int .u8 (a.flag)] 5)).alloc (.cells #[.iface 22 (.int .u64 a.up), .iface 22 (.int .u64 (IntKind.u64.wrap (IntKind.u64.wrap a.shift + 9223372036854775808)))] 20)).heap.size by first | (simp; done) | (simp; omega)) hl12.drew (show w2.heap.size + 1 + 1 ≤ ((w2.alloc (.cells #[.int .u8 (a.flag)] 5)).alloc (.cells #[.iface 22 (.int .u64 a.up), .iface 22 (.int .u64 (IntKind.u64.wrap (IntKind.u64.wrap a.shift + 9223372036854775808)))] 20)).heap.size by simp) (hsep 1) hfine rfl (by omega) hel
      have hz4l : (e0 ++ itsEnc [.inl a.up, .inl y]).length ≤ 1099511620016 := by
        rw [List.length_append]
        have : (itsEnc [.inl a.up, .inl y]).length = 16 := by simp [itsEnc, itEnc, ordEnc_len]
        omega
      have HADE : Hid (adEnc a = e0 ++ itsEnc [.inl a.up, .inl y] ++ [a.flag]) := by rw [adEnc, HE0.out, hy, show a.flag % 256 = a.flag from by omega]; exact Lib.hid rfl
      obtain ⟨z4, hz4⟩ : ∃ z4, e0 ++ itsEnc [.inl a.up, .inl y] = z4 := ⟨_, rfl⟩
      rw [hz4] at cp1 cp2 cp3 hz4l
      have HAD : Hid (adEnc a = z4 ++ [a.flag]) := by rw [HADE.out, hz4]; exact Lib.hid rfl
      have CP1 := Lib.hid cp1
      have CP2 := Lib.hid cp2
      have CP3 := Lib.hid cp3
      have hr21 : Rb ((w2.alloc (.cells #[.iface 22 (.int .u64 a.up), .iface 22 (.int .u64 (IntKind.u64.wrap (IntKind.u64.wrap a.shift + 9223372036854775808)))] 20)).alloc (.cells #[.int .u8 (a.flag)] 5)) (w2.heap.size + 1 + 1) (some ⟨w2.heap.size + 1, 0, none⟩) [a.flag] := Rd.lit' (w := w2.alloc (.cells #[.iface 22 (.int .u64 a.up), .iface 22 (.int .u64 (IntKind.u64.wrap (IntKind.u64.wrap a.shift + 9223372036854775808)))] 20)) (cs := #[.int .u8 (a.flag)]) (by first | (simp; done) | (simp; omega))
      have hr12 : Rb ((w2.alloc (.cells #[.int .u8 (a.flag)] 5)).alloc (.cells #[.iface 22 (.int .u64 a.up), .iface 22 (.int .u64 (IntKind.u64.wrap (IntKind.u64.wrap a.shift + 9223372036854775808)))] 20)) (w2.heap.size + 1) (some ⟨w2.heap.size, 0, none⟩) [a.flag] := (Rd.lit w2 #[.int .u8 (a.flag)] 5).alloc (by first | (simp; done) | (simp; omega)) (.cells #[.iface 22 (.int .u64 a.up), .iface 22 (.int .u64 (IntKind.u64.wrap (IntKind.u64.wrap a.shift + 9223372036854775808)))] 20)
      have HR21 := Lib.hid hr21
      have HR12 := Lib.hid hr12
      have HBW := Lib.hid hbw
      have HO2 := Lib.hid ho2
      have HBK := Lib.hid bk2
      clear cells hy hsh hylt hl2 hl12 hfine hsep cp1 cp2 cp3 hz4 HADE hr21 hr12 hbw ho2 bk2 hel
      have hwru : IntKind.u8.wrap a.flag = a.flag := by rw [IntKind.wrap_u8]; omega
      go_upto_region 6 with fail
      go_region_held3 (fun w' => w'.cell? ⟨g, 11, none⟩ = some (.int .u64 a.up) ∧ w'.cell? ⟨g, 12, none⟩ = some (.int .i64 a.shift) ∧ w'.cell? ⟨g, 13, none⟩ = some (.int .i64 a.flag)) (go_keep)
        (first
          | (go_at_call 34
             first
             | ((with_reducible refine CP1.out.mono ?_)
                rintro e w4 ⟨A4, c4, rfl, h4, -⟩
                have bk4 := ((HBK.out.alloc (.cells #[.iface 22 (.int .u64 a.up), .iface 22 (.int .u64 (IntKind.u64.wrap (IntKind.u64.wrap a.shift + 9223372036854775808)))] 20)).drew).grown h4.grown (Ne.symm hrowg)
                have hg4 : (w2.alloc (.cells #[.iface 22 (.int .u64 a.up), .iface 22 (.int .u64 (IntKind.u64.wrap (IntKind.u64.wrap a.shift + 9223372036854775808)))] 20)).grownBy w4 (Value.slice A2 e0.length c2).ownBlock := ⟨h4.grown.os, h4.grown.tape, h4.grown.output, h4.grown.size, h4.grown.block⟩
                have hb4 : Below w1.heap.size w2 w4 := (((Below.refl _ w2).alloc hw12 (.cells #[.iface 22 (.int .u64 a.up), .iface 22 (.int .u64 (IntKind.u64.wrap (IntKind.u64.wrap a.shift + 9223372036854775808)))] 20)).trans (grown_below hg4 (show w1.heap.size ≤ (w2.alloc (.cells #[.iface 22 (.int .u64 a.up), .iface 22 (.int .u64 (IntKind.u64.wrap (IntKind.u64.wrap a.shift + 9223372036854775808)))] 20)).heap.size by first | (simp; done) | (simp; omega)) (fun b hb => (HO2.out.lt b hb).1)))
                obtain ⟨s0, s1, s2⟩ : w4.cell? ⟨g, 11, none⟩ = some (.int .u64 a.up) ∧ w4.cell? ⟨g, 12, none⟩ = some (.int .i64 a.shift) ∧ w4.cell? ⟨g, 13, none⟩ = some (.int .i64 a.flag) := ⟨bk4.cell 11, bk4.cell 12, bk4.cell 13⟩
                obtain ⟨s3, s4, s5⟩ : (w4.alloc (.cells #[.int .u8 (a.flag)] 5)).cell? ⟨g, 11, none⟩ = some (.int .u64 a.up) ∧ (w4.alloc (.cells #[.int .u8 (a.flag)] 5)).cell? ⟨g, 12, none⟩ = some (.int .i64 a.shift) ∧ (w4.alloc (.cells #[.int .u8 (a.flag)] 5)).cell? ⟨g, 13, none⟩ = some (.int .i64 a.flag) := ⟨(bk4.alloc (.cells #[.int .u8 (a.flag)] 5)).cell 11, (bk4.alloc (.cells #[.int .u8 (a.flag)] 5)).cell 12, (bk4.alloc (.cells #[.int .u8 (a.flag)] 5)).cell 13⟩)
             | ((with_reducible refine CP2.out.mono ?_)
                rintro e w4 ⟨A4, c4, rfl, h4, -⟩
                have bk4 := (((HBK.out.alloc (.cells #[.iface 22 (.int .u64 a.up), .iface 22 (.int .u64 (IntKind.u64.wrap (IntKind.u64.wrap a.shift + 9223372036854775808)))] 20)).alloc (.cells #[.int .u8 (a.flag)] 5)).drew).grown h4.grown (Ne.symm hrowg)
                have hg4 : ((w2.alloc (.cells #[.iface 22 (.int .u64 a.up), .iface 22 (.int .u64 (IntKind.u64.wrap (IntKind.u64.wrap a.shift + 9223372036854775808)))] 20)).alloc (.cells #[.int .u8 (a.flag)] 5)).grownBy w4 (Value.slice A2 e0.length c2).ownBlock := ⟨h4.grown.os, h4.grown.tape, h4.grown.output, h4.grown.size, h4.grown.block⟩
                have hb4 : Below w1.heap.size w2 w4 := ((((Below.refl _ w2).alloc hw12 (.cells #[.iface 22 (.int .u64 a.up), .iface 22 (.int .u64 (IntKind.u64.wrap (IntKind.u64.wrap a.shift + 9223372036854775808)))] 20)).alloc (by first | (simp; done) | (simp; omega)) (.cells #[.int .u8 (a.flag)] 5)).trans (grown_below hg4 (show w1.heap.size ≤ ((w2.alloc (.cells #[.iface 22 (.int .u64 a.up), .iface 22 (.int .u64 (IntKind.u64.wrap (IntKind.u64.wrap a.shift + 9223372036854775808)))] 20)).alloc (.cells #[.int .u8 (a.flag)] 5)).heap.size by first | (simp; done) | (simp; omega)) (fun b hb => (HO2.out.lt b hb).1)))
                have hr9 : Rb w4 (w2.heap.size + 1 + 1) (some ⟨w2.heap.size + 1, 0, none⟩) [a.flag] := Rd.block4 HR21.out hg4 (by first | (simp; done) | (simp; omega)) (hrown 1)
                obtain ⟨s0, s1, s2⟩ : w4.cell? ⟨g, 11, none⟩ = some (.int .u64 a.up) ∧ w4.cell? ⟨g, 12, none⟩ = some (.int .i64 a.shift) ∧ w4.cell? ⟨g, 13, none⟩ = some (.int .i64 a.flag) := ⟨bk4.cell 11, bk4.cell 12, bk4.cell 13⟩)
             | ((with_reducible refine CP3.out.mono ?_)
                rintro e w4 ⟨A4, c4, rfl, h4, -⟩
                have bk4 := (((HBK.out.alloc (.cells #[.int .u8 (a.flag)] 5)).alloc (.cells #[.iface 22 (.int .u64 a.up), .iface 22 (.int .u64 (IntKind.u64.wrap (IntKind.u64.wrap a.shift + 9223372036854775808)))] 20)).drew).grown h4.grown (Ne.symm hrowg)
                have hg4 : ((w2.alloc (.cells #[.int .u8 (a.flag)] 5)).alloc (.cells #[.iface 22 (.int .u64 a.up), .iface 22 (.int .u64 (IntKind.u64.wrap (IntKind.u64.wrap a.shift + 9223372036854775808)))] 20)).grownBy w4 (Value.slice A2 e0.length c2).ownBlock := ⟨h4.grown.os, h4.grown.tape, h4.grown.output, h4.grown.size, h4.grown.block⟩
                have hb4 : Below w1.heap.size w2 w4 := ((((Below.refl _ w2).alloc hw12 (.cells #[.int .u8 (a.flag)] 5)).alloc (by first | (simp; done) | (simp; omega)) (.cells #[.iface 22 (.int .u64 a.up), .iface 22 (.int .u64 (IntKind.u64.wrap (IntKind.u64.wrap a.shift + 9223372036854775808)))] 20)).trans (grown_below hg4 (show w1.heap.size ≤ ((w2.alloc (.cells #[.int .u8 (a.flag)] 5)).alloc (.cells #[.iface 22 (.int .u64 a.up), .iface 22 (.int .u64 (IntKind.u64.wrap (IntKind.u64.wrap a.shift + 9223372036854775808)))] 20)).heap.size by first | (simp; done) | (simp; omega)) (fun b hb => (HO2.out.lt b hb).1)))
                have hr9 : Rb w4 (w2.heap.size + 1) (some ⟨w2.heap.size, 0, none⟩) [a.flag] := Rd.block4 HR12.out hg4 (by first | (simp; done) | (simp; omega)) (hrown 0)
                obtain ⟨s0, s1, s2⟩ : w4.cell? ⟨g, 11, none⟩ = some (.int .u64 a.up) ∧ w4.cell? ⟨g, 12, none⟩ = some (.int .i64 a.shift) ∧ w4.cell? ⟨g, 13, none⟩ = some (.int .i64 a.flag) := ⟨bk4.cell 11, bk4.cell 12, bk4.cell 13⟩))
          | (refine step_appK (by rfl) (.tmp 35) (.tmp 39) (by rfl) w1.heap.size (.slice A4 z4.length c4) z4.length z4 (by rfl) (h4.own.alloc (.cells #[.int .u8 (a.flag)] 5)) _ (some ⟨w4.heap.size, 0, none⟩) 1 1 [a.flag] (by rfl) (by rfl) (Rd.lit w4 #[.int .u8 (a.flag)] _) (by omega) (by have := hb4.size; simp; omega) ?_
             intro A9 c9 w9 happ9 _
             have hg9 : (Value.slice A4 z4.length c4).ownBlock ≠ some g := fun e => by have h := (h4.own.lt g e).1; omega
             have bk9 := (bk4.alloc (.cells #[.int .u8 (a.flag)] 5)).grown happ9.grown (Ne.symm hg9)
             obtain ⟨u0, u1, u2⟩ : w9.cell? ⟨g, 11, none⟩ = some (.int .u64 a.up) ∧ w9.cell? ⟨g, 12, none⟩ = some (.int .i64 a.shift) ∧ w9.cell? ⟨g, 13, none⟩ = some (.int .i64 a.flag) := ⟨bk9.cell 11, bk9.cell 12, bk9.cell 13⟩
             have hfin := ((App.refl h4.own).alloc (.cells #[.int .u8 (a.flag)] 5)).trans happ9)
          | (refine step_appK (by rfl) (.tmp 35) (.tmp 39) (by rfl) w1.heap.size (.slice A4 z4.length c4) z4.length z4 (by rfl) h4.own _ _ 1 1 [a.flag] (by rfl) (by rfl) hr9 (by omega) (by have := hb4.size; omega) ?_
             intro A9 c9 w9 happ9 _
             have hg9 : (Value.slice A4 z4.length c4).ownBlock ≠ some g := fun e => by have h := (h4.own.lt g e).1; omega
             have bk9 := bk4.grown happ9.grown (Ne.symm hg9)
             obtain ⟨u0, u1, u2⟩ : w9.cell? ⟨g, 11, none⟩ = some (.int .u64 a.up) ∧ w9.cell? ⟨g, 12, none⟩ = some (.int .i64 a.shift) ∧ w9.cell? ⟨g, 13, none⟩ = some (.int .i64 a.flag) := ⟨bk9.cell 11, bk9.cell 12, bk9.cell 13⟩
             have hfin := happ9)
          | fail)
      all_goals
        go_wp2
        go_ret2
        have hlo : ∀ b, (Value.slice A4 z4.length c4).ownBlock = some b → w1.heap.size ≤ b := fun b hb => (h4.own.lt b hb).1
        have hb9 : Below w1.heap.size w2 w9 := hb4.trans (hfin.below (Nat.le_trans hw12 hb4.size) hlo)
        have hw01 := HB0.out.size
        refine ⟨A9, c9, by rw [HR.out, HAD.out, List.length_append]; rfl, by rw [HR.out, HAD.out]; exact hfin.rd, HBW.out.trans (hb9.mono hw01), by rw [HR.out, HAD.out, List.length_append]; exact hfin.cap, fun e => ?_, fun x e => ?_⟩
        · subst e
          rcases hfin.own.2 with ⟨_, h3⟩ | ⟨_, _, _, h2, _⟩
          · omega
          · injection h2 with h2; cases h2
        · subst e
          exact Nat.le_trans hw01 (hfin.own.lt x.block rfl).1
end Go.Proofs.Ytlamebbolioljaa

/- Keys: Unpack. -/
namespace Go.Proofs.Ytlamebbolioljaa
open Go.RowKit
theorem loadKy_shut3 (a : Addr) : loadVar 26 a = loadK 26 a := rfl
attribute [local go_sem ↓] loadKy_shut3 run_slK

set_option maxRecDepth 100000 in
set_option maxHeartbeats 1000000 in
theorem scUnpack0 {A0 : Option Addr} {c0 : Nat} (w : World) : Calls Try.prog 12 #[.slice A0 0 c0] w (UnPost w (zeroKy, 12)) := by
  go_enter Try.func12, Try.ntmps12
  go_wp2
  refine bodyPost_ret (results_cell_row_tmpK rfl _ _ w.heap.size 26 zkyC _ rfl (Bk.new w _ zkyC) Try.underlying26 rfl (by rfl)) rfl ?_
  exact ⟨rfl, (Below.refl _ w).alloc (Nat.le_refl _) _⟩

/-- Behind the lookup of the parts. -/
structure UnP (w0 W : World) (rb g : Nat) (k : Ky) (v t : Value) : Prop where
  cell : ∃ A, v = .slice A (kyParts k).length (kyParts k).length ∧ Rd W W.heap.size A (iv (kyParts k)) ∧ (∀ a, A = some a → g < a.block)
  is : t = .bool (partsOf k.kind).isSome
  res : Bk W rb 26 zkyC
  key : Bk W g 26 (kyC k)
  bel : Below w0.heap.size w0 W
set_option maxRecDepth 100000 in
set_option maxHeartbeats 8000000 in
theorem scUnpack1 {A0 : Option Addr} {c0 B n : Nat} {cb : Int} {rest : List Int} (w : World) (ha : Rb w B A0 (cb :: rest)) (hB : B ≤ w.heap.size) (hz : Byt (cb :: rest)) (hl : n ≤ 1000000) (hn : rest.length + 1 = n) (hc : n ≤ c0) :
    Calls Try.prog 12 #[.slice A0 n c0] w (UnPost w (unpOf (cb :: rest))) := by
  obtain ⟨r, hr⟩ : ∃ r, unpOf (cb :: rest) = r := ⟨_, rfl⟩
  rw [hr]
  obtain ⟨k0, hk0⟩ : ∃ k0 : Ky, { zeroKy with kind := cb } = k0 := ⟨_, rfl⟩
  have hkk : k0.kind = cb := by rw [← hk0]
  have hr2 : r = match partsOf k0.kind with | none => (zeroKy, 4) | some l => unpEnd (unpGo l rest k0 0) := by subst hk0; exact hr.symm
  have HR := Lib.hid hr2
  obtain ⟨b, o, rfl, hbb, hcell⟩ := Rd.get (k := 0) (u := .int .u8 cb) ha rfl
  have hzc := hz cb (by simp)
  have hb0 : Below w.heap.size w ((w.alloc (.cells zkyC 26)).alloc (.cells #[.int .i64 cb, .int .u64 0, .int .u64 0, .int .u64 0, .string ⟨#[]⟩, .string ⟨#[]⟩, .string ⟨#[]⟩, .int .u64 0, .int .i64 0] 26)) := ((Below.refl _ w).alloc (Nat.le_refl _) _).alloc (by simp) _
  have bkr := (Bk.new w 26 zkyC).alloc (.cells #[.int .i64 cb, .int .u64 0, .int .u64 0, .int .u64 0, .string ⟨#[]⟩, .string ⟨#[]⟩, .string ⟨#[]⟩, .int .u64 0, .int .i64 0] 26)
  have bk : Bk ((w.alloc (.cells zkyC 26)).alloc (.cells #[.int .i64 cb, .int .u64 0, .int .u64 0, .int .u64 0, .string ⟨#[]⟩, .string ⟨#[]⟩, .string ⟨#[]⟩, .int .u64 0, .int .i64 0] 26)) (w.heap.size + 1) 26 (kyC k0) := by
    have h := Bk.new (w.alloc (.cells zkyC 26)) 26 (kyC k0)
    rw [World.size_alloc, ← hk0] at h
    rw [← hk0]
    exact h
  have ha1 := (ha.below (Below.refl B w)).below (hb0.mono hB)
  have hcell0 : (w.alloc (.cells zkyC 26)).cell? ⟨b, o, none⟩ = some (.int .u8 cb) := (World.cell?_alloc_lt w _ ⟨b, o, none⟩ (by show b < _; omega)).trans hcell
  obtain ⟨w1, hw1⟩ : ∃ w1, (w.alloc (.cells zkyC 26)).alloc (.cells #[.int .i64 cb, .int .u64 0, .int .u64 0, .int .u64 0, .string ⟨#[]⟩, .string ⟨#[]⟩, .string ⟨#[]⟩, .int .u64 0, .int .i64 0] 26) = w1 := ⟨_, rfl⟩
  rw [hw1] at hb0 bk bkr ha1
  have HW := Lib.hid hw1
  obtain ⟨rb, hrb⟩ : ∃ rb, w.heap.size = rb := ⟨_, rfl⟩
  have hB2 : B ≤ rb := by omega
  rw [hrb] at bk bkr
  have HG := Lib.hid hrb
  have HB0 := Lib.hid hb0
  have HK0 := Lib.hid hk0
  have kd1 : w1.drew.cell? ⟨rb + 1, 0, none⟩ = some (.int .i64 cb) := by rw [← hkk]; exact bk.drew.cell 0
  have hn0 : ((n : Int) == 0) = false := by simp; omega
  have HKK := Lib.hid hkk
  have HA := Lib.hid ha
  clear hr hr2 hw1 hrb hb0 hk0 hkk ha
  have hsl : ∀ W, (Instr.slice 27 (.slice (some ⟨b, o, none⟩) n c0) (some (.int .i64 1)) none none).run Try.prog W = .ok (.slice (offA (some ⟨b, o, none⟩) c0 1) (n - 1) (c0 - 1)) W := fun W => run_slK W _ n c0 .i64 1 (by omega) (by omega)
  go_enter Try.func12, Try.ntmps12
  go_upto_region 4 with fail
  rw [HW.out, HG.out]
  go_cut [5, 6] from 25 to 31 (fun v t W => UnP w W rb (rb + 1) k0 v t)
  case first =>
    go_region_held3 (fun w' => w'.cell? ⟨rb + 1, 0, none⟩ = some (.int .i64 cb)) (go_keep)
      (first
        | (go_at_call 28
           refine (scParts _).mono ?_
           rintro e w3 ⟨pg, rfl, hp2, hpg, hb3⟩
           obtain ⟨A, hfar, hlk⟩ := parts_look2 pg k0.kind
           have hlkt : (Instr.lookup 65 (.map (some pg)) (.int .i64 cb) true).run Try.prog w3 = .ok (.tuple #[.slice A (kyParts k0).length (kyParts k0).length, .bool (partsOf k0.kind).isSome]) w3 := by rw [← HKK.out]; exact (hlk w3 hp2).2 true
           have HLK := Lib.hid hlk
           have HFA := Lib.hid hfar
           have kd2 : w3.cell? ⟨rb + 1, 0, none⟩ = some (.int .i64 cb) := by rw [← HKK.out]; exact (bk.drew.bS hb3).cell 0
           clear hlk hfar)
        | fail)
    all_goals
      go_wp2
      go_meet
      exact ⟨⟨A, rfl, (HLK.out w3 hp2).1, fun a ha => by have h1 := HFA.out a ha; have h2 := bk.lt; have h3 : w1.heap.size ≤ pg := hpg; omega⟩, rfl, bkr.drew.bS hb3, bk.drew.bS hb3, (below_drewN HB0.out 1).trans (hb3.mono HB0.out.size)⟩
  case rest =>
    obtain ⟨⟨A, rfl, hrd, hfar⟩, rfl, hres, hkey, hbel⟩ := hcut
    obtain ⟨op, ho⟩ : ∃ op, partsOf k0.kind = op := ⟨_, rfl⟩
    have hle : (kyParts k0).length ≤ 7 := partsOf_len k0.kind
    have hr2 := HR.out
    rw [ho] at hr2 ⊢
    have HO := Lib.hid ho
    clear ho HR kd1
    cases op with
    | none =>
      have HR2 := Lib.hid hr2
      clear hr2
      go_wp2_with (refine wpList_store_row rfl 26 (.tmp 2) (.tmp 34) rfl rb zkyC rfl rfl 26 zkyC hres (by rfl) rfl zkyC_one ?_)
      refine bodyPost_ret (results_cell_row_tmpK rfl _ _ rb 26 zkyC _ rfl (hres.rowK zkyC) Try.underlying26 rfl (by rfl)) rfl ?_
      rw [HR2.out]
      exact ⟨rfl, below_rowK hbel (by rw [← HG.out]; exact Nat.le_refl _) _⟩
    | some l =>
      have hlk : kyParts k0 = l := by rw [kyParts, HO.out]; rfl
      rw [hlk] at hrd hle ⊢
      simp only [Option.isSome_some] at hr2 ⊢
      have HR2 := Lib.hid hr2
      clear hr2 hlk
      go_upto_region 9 with fail
      have hrbw : w.heap.size = rb := HG.out
      have hbl := hbel.size
      have hq : UnQ w (wc.alloc (.cells #[.int .u64 0] 22)) rb (rb + 1) wc.heap.size A l (offA (some ⟨b, o, none⟩) c0 1) rest k0 0 :=
        ⟨hres.alloc _, hkey.alloc _, Bk.new wc _ _, hrd.alloc (Nat.le_refl _) _, hfar, by
          have h := (Rb.drop HA.out (k := 1) (cap := c0) (by simp; omega)).more hB2
          rw [← hrbw] at h ⊢
          exact (h.below hbel).alloc hbl _, hbel.alloc hbl _, by omega, by omega, hkey.lt⟩
      obtain ⟨W2, hW2⟩ : ∃ W2, wc.alloc (.cells #[.int .u64 0] 22) = W2 := ⟨_, rfl⟩
      have hs2 : W2.heap.size = wc.heap.size + 1 := by rw [← hW2]; simp
      rw [hW2] at hq ⊢
      obtain ⟨tb, htb⟩ : ∃ tb, wc.heap.size = tb := ⟨_, rfl⟩
      rw [htb] at hq hs2 ⊢
      have hm1t : tb < W2.heap.size := by omega
      have hm : Mp (W2.alloc (.map #[] 0)) W2.heap.size #[] := Mp.new W2
      have hq := hq.alloc (.map #[] 0)
      have hsz : (W2.alloc (.map #[] 0)).heap.size = W2.heap.size + 1 := World.size_alloc W2 _
      clear hW2 hs2 htb hrbw hbl hres hkey hrd hfar hbel hsl
      have hmm := @run_makeMap Try.prog
      go_upto_region 10 with (first
        | (refine wpList_insI _ (by rfl) (.tmp 37) _ _ 70 (by rfl) 3 69 .i64 Try.underlying70 Try.underlying3 W2.heap.size _ (by rfl) hm _ _ (by rfl) (by rfl) (by rfl) ?_
           intro w' hm2 hg2 hs2
           have hsz2 := hs2
           rw [hsz] at hsz2
           have hq2 := hq.grown hg2 hm1t
           clear hs2 hg2 hm hsz hq
           have hm := hm2
           have hsz := hsz2
           have hq := hq2
           clear hm2 hsz2 hq2)
        | fail)
      have hp1 : Mp w' W2.heap.size (numEs (rb + 1) tb) := hm
      have hne : W2.heap.size ≠ w'.heap.size := by omega
      have hm2t : tb < w'.heap.size := by omega
      have hlt12 : W2.heap.size < w'.heap.size := by omega
      clear hm hsz
      have hm : Mp (w'.alloc (.map #[] 0)) w'.heap.size #[] := Mp.new w'
      have hq := hq.alloc (.map #[] 0)
      have hp1 := hp1.alloc (.map #[] 0)
      have hsz : (w'.alloc (.map #[] 0)).heap.size = w'.heap.size + 1 := World.size_alloc w' _
      go_upto_region 11 with (first
        | (refine wpList_insI _ (by rfl) (.tmp 45) _ _ 72 (by rfl) 3 71 .i64 Try.underlying72 Try.underlying3 w'.heap.size _ (by rfl) hm _ _ (by rfl) (by rfl) (by rfl) ?_
           intro w4 hm2 hg2 hs2
           have hsz2 := hs2
           rw [hsz] at hsz2
           have hq2 := hq.grown hg2 hm2t
           have hp2 := hp1.grown hg2 hne
           clear hs2 hg2 hm hsz hq hp1
           have hm := hm2
           have hsz := hsz2
           have hq := hq2
           have hp1 := hp2
           clear hm2 hsz2 hq2 hp2)
        | fail)
      have hum : UnM w w4 rb (rb + 1) tb W2.heap.size w'.heap.size A l (offA (some ⟨b, o, none⟩) c0 1) rest k0 0 :=
        ⟨hq.res, hq.key, hq.att, hp1, hm, hq.parts, hq.pfar, hq.bytes, hq.bel, hq.o1, hq.o2, hq.o3, hm1t, hlt12⟩
      obtain ⟨m1, hm1⟩ : ∃ m1, W2.heap.size = m1 := ⟨_, rfl⟩
      obtain ⟨m2, hm2⟩ : ∃ m2, w'.heap.size = m2 := ⟨_, rfl⟩
      rw [hm1, hm2] at hum
      rw [hm1, hm2]
      clear hm1 hm2 hm1t hm2t hlt12 hne hm hsz hp1 hq hmm
      obtain ⟨X, hX⟩ : ∃ X, unpGo l rest k0 0 = X := ⟨_, rfl⟩
      have hr3 : r = unpEnd (unpGo l rest k0 0) := HR2.out
      rw [hX] at hr3
      have HR3 := Lib.hid hr3
      have hl7 : l.length ≤ 7 := hle
      have HRNG : Hid (∀ p ∈ l, 0 ≤ p ∧ p < 8) := by
        have h := partsOf_rng k0.kind
        rw [HO.out] at h
        exact Lib.hid h
      have HX := Lib.hid hX
      obtain ⟨m, hm⟩ : ∃ m, l.length = m := ⟨_, rfl⟩
      rw [hm] at hl7 ⊢
      have HM := Lib.hid hm
      have hbyt : Byt rest := fun y hy => hz y (List.mem_cons_of_mem _ hy)
      clear hr3 HR2 hle hX hm hn0 hzc hcell hcell0
      go_wp2
      go_loopw [0, 52] (fun v i wr => ∃ (Ab : Option Addr) (c j : Nat) (bb : List Int) (k : Ky) (t : Nat), v = .slice Ab bb.length c ∧ i = .int .i64 j ∧ j ≤ m ∧ UnM w wr rb (rb + 1) tb m1 m2 A l Ab bb k t ∧ bb.length ≤ c ∧ Byt bb ∧ bb.length ≤ 1000000 ∧ k.kind = cb ∧ unpGo (l.drop j) bb k t = X) (fun _ i _ => m - (intOf i).toNat)
      case atStart => exact ⟨_, c0 - 1, 0, rest, k0, 0, by rw [← hn]; rfl, rfl, Nat.zero_le _, hum, by omega, hbyt, by omega, HKK.out, HX.out⟩
      case round =>
        obtain ⟨Ab, c, j, bb, k, t, rfl, rfl, hj, um, hcc, hby, hbl, hkd, hgo⟩ := hrel
        have HGO := Lib.hid hgo
        have HKD := Lib.hid hkd
        obtain ⟨ln, hln⟩ : ∃ ln, bb.length = ln := ⟨_, rfl⟩
        rw [hln] at hcc hbl ⊢
        have HLN := Lib.hid hln
        clear hgo hkd hum hbyt hln
        by_cases hlt : j < m
        · have hlt' : (j : Int) < (m : Int) := by omega
          obtain ⟨p, hp⟩ : ∃ p, l[j]? = some p := ⟨_, List.getElem?_eq_getElem (by rw [HM.out]; exact hlt)⟩
          obtain ⟨bp, po, rfl, hbp, hpc⟩ := um.parts.get (iv_get hp)
          have hrg := HRNG.out p (List.mem_of_getElem? hp)
          have HD : Hid (l.drop j = p :: l.drop (j + 1)) := by
            obtain ⟨h, e⟩ := List.getElem?_eq_some_iff.1 hp
            rw [List.drop_eq_getElem_cons h, e]
            exact Lib.hid rfl
          have hlk := num_look um.mp1 p hrg.1 hrg.2
          cases htx : isTxt p with
          | false =>
            by_cases h8 : ln < 8
            · obtain ⟨bl, po2, hna, ⟨old, hold⟩, hfr, um2⟩ := um.num hrg.1 hrg.2 htx 0
              rw [hna] at hlk
              have HE : Hid (r = (zeroKy, 12)) := by
                rw [HR3.out, ← HGO.out, HD.out, unpGo_short htx (by rw [HLN.out]; exact h8)]
                exact Lib.hid rfl
              have hres := um2.res
              have HUM := Lib.hid um2
              have HUM1 := Lib.hid um
              clear hna hp htx hrg um um2
              go_upto_region 21 with (go_at_call 30; refine (wireReadOrdered0 _ h8).mono ?_; rintro e w' ⟨rfl, rfl⟩)
              go_wp2_with ((refine wpList_store_row rfl 26 (.tmp 2) (.tmp 81) rfl rb zkyC rfl rfl 26 zkyC hres (by rfl) rfl zkyC_one ?_))
              refine bodyPost_ret (results_cell_row_tmpK rfl _ _ rb 26 zkyC _ rfl (hres.rowK zkyC) Try.underlying26 rfl (by rfl)) rfl ?_
              rw [HE.out]
              exact ⟨rfl, below_rowK HUM.out.bel HUM.out.o1 _⟩
            · obtain ⟨x, hx⟩ : ∃ x, ordVal (bb.take 8) = x := ⟨_, rfl⟩
              obtain ⟨bl, po2, hna, ⟨old, hold⟩, hfr, um2⟩ := um.num hrg.1 hrg.2 htx x
              rw [hna] at hlk
              have cr := wireReadOrdered1 wr um.bytes hby (by simp only [maxLen]; rw [HLN.out]; omega) (show 8 ≤ ln by omega) HLN.out hcc
              rw [hx] at cr
              have hsl : ∀ W, (Instr.slice 27 (.slice Ab ln c) (some (.int .i64 8)) none none).run Try.prog W = .ok (.slice (offA Ab c 8) (ln - 8) (c - 8)) W := fun W => run_slK W _ ln c .i64 8 (by omega) (by omega)
              have HG2 : Hid (unpGo (l.drop (j + 1)) (bb.drop 8) (putN k p x) (putT t p x) = X) := by
                rw [← HGO.out, HD.out, unpGo_num htx (by rw [HLN.out]; omega), hx]
                exact Lib.hid rfl
              have HKN : Hid ((putN k p x).kind = cb) := by rw [putN_kind]; exact HKD
              have CR := Lib.hid cr
              have HUM := Lib.hid um2
              have HUM1 := Lib.hid um
              clear hna hp htx hrg um um2 cr hx
              go_wp2_with (go_at_call 30; refine CR.out.mono ?_; rintro e w' ⟨rfl, rfl⟩)
              go_roundw
              case rel => exact ⟨offA Ab c 8, c - 8, j + 1, bb.drop 8, _, _, by rw [List.length_drop, HLN.out], by go_num, by omega, HUM.out.drop (by rw [HLN.out]; exact hcc), by rw [List.length_drop, HLN.out]; omega, hby.drop 8, by rw [List.length_drop, HLN.out]; omega, HKN.out, HG2.out⟩
              case measure => simp [intOf]; omega
          | true =>
            obtain ⟨po2, hta, hna, hum⟩ := um.txt htx
            rw [hna] at hlk
            have hlt2 := fun (W : World) (h : Mp W m2 (txtEs (rb + 1))) => (txt_look h p hrg.1 hrg.2)
            rw [hta] at hlt2
            have hl0 := hlt2 wr.drew um.mp2
            have cr := wireReadOrderedText (c := c) wr.drew um.bytes.drew (show rb ≤ wr.drew.heap.size from by have := um.res.lt; show rb ≤ wr.heap.size; omega) hby (by rw [HLN.out]; omega) HLN.out
            cases hto : txtOf bb with
            | inr e =>
              rw [hto] at cr
              have he0 : e ≠ 0 := by have := txtOf_err hto; omega
              have HE : Hid (r = (zeroKy, e)) := by
                rw [HR3.out, ← HGO.out, HD.out, unpGo_txtBad htx hto]
                exact Lib.hid rfl
              have d : ((e : Int) != 0) = true := by rw [bne_iff_ne]; omega
              have CR := Lib.hid cr
              have HUM1 := Lib.hid um
              have HUM := Lib.hid hum
              have HLT := Lib.hid hlt2
              clear hna hta hp htx hrg um hum cr hto hlt2 he0
              go_upto_region 19 with fail
              go_region_with (first
                | (go_at_call 31
                   refine CR.out.mono ?_
                   rintro en w5 ⟨rfl, hb5⟩
                   have hbb := (below_drewN (Below.refl _ wr) 1).trans (hb5.mono (Nat.le_refl _))
                   have hl1 := HLT.out w5 (HUM1.out.below hbb).mp2
                   obtain ⟨⟨old, hold⟩, hfr, hst⟩ := HUM.out w5 hbb
                   have hres := (hst ByteArray.empty).res
                   have HST := Lib.hid hst
                   clear hst)
                | fail)
              all_goals
                go_upto_region 21 with fail
                go_wp2_with (refine wpList_store_row rfl 26 (.tmp 2) (.tmp 81) rfl rb zkyC rfl rfl 26 zkyC hres (by rfl) rfl zkyC_one ?_)
                refine bodyPost_ret (results_cell_row_tmpK rfl _ _ rb 26 zkyC _ rfl (hres.rowK zkyC) Try.underlying26 rfl (by rfl)) rfl ?_
                rw [HE.out]
                exact ⟨rfl, below_rowK (HST.out ByteArray.empty).bel (HST.out ByteArray.empty).o1 _⟩
            | inl oi =>
              obtain ⟨o2, i⟩ := oi
              rw [hto] at cr
              have hil := txtOf_le hto
              rw [HLN.out] at hil
              have hsl : ∀ W, (Instr.slice 27 (.slice Ab ln c) (some (.int .i64 (i : Nat))) none none).run Try.prog W = .ok (.slice (offA Ab c i) (ln - i) (c - i)) W := fun W => by
                have h := run_slK W Ab ln c .i64 i (by omega) (by omega)
                simpa using h
              obtain ⟨s, hs⟩ : ∃ s, strOfNums o2 = s := ⟨_, rfl⟩
              have HG2 : Hid (unpGo (l.drop (j + 1)) (bb.drop i) (putS k p s) t = X) := by
                rw [← HGO.out, HD.out, unpGo_txt htx hto, hs]
                exact Lib.hid rfl
              have HKN : Hid ((putS k p s).kind = cb) := by rw [putS_kind]; exact HKD
              have cr2 : Calls Try.prog 31 #[.slice Ab ln c] wr.drew fun e w' => e = .returned (.tuple #[.string s, .int .i64 i, .int .i64 0]) ∧ Below wr.drew.heap.size wr.drew w' := by rw [← hs]; exact cr
              have CR := Lib.hid cr2
              have HUM1 := Lib.hid um
              have HUM := Lib.hid hum
              have HLT := Lib.hid hlt2
              clear hna hta hp htx hrg um hum cr cr2 hto hlt2 hs
              go_upto_region 19 with fail
              go_region_with (first
                | (go_at_call 31
                   refine CR.out.mono ?_
                   rintro en w5 ⟨rfl, hb5⟩
                   have hbb := (below_drewN (Below.refl _ wr) 1).trans (hb5.mono (Nat.le_refl _))
                   have hl1 := HLT.out w5 (HUM1.out.below hbb).mp2
                   obtain ⟨⟨old, hold⟩, hfr, hst⟩ := HUM.out w5 hbb
                   have HST := Lib.hid (hst s)
                   clear hst)
                | fail)
              all_goals
                go_wp2
                go_roundw
                case rel => exact ⟨offA Ab c i, c - i, j + 1, bb.drop i, _, _, by rw [List.length_drop, HLN.out], by go_num, by omega, HST.out.drop (by rw [HLN.out]; exact hcc), by rw [List.length_drop, HLN.out]; omega, hby.drop i, by rw [List.length_drop, HLN.out]; omega, HKN.out, HG2.out⟩
                case measure => simp [intOf]; omega
        · have hlt' : decide ((j : Int) < (m : Int)) = false := by simp; omega
          have HE0 : Hid (r = unpEnd (.inl (k, t, bb))) := by
            rw [HR3.out, ← HGO.out, List.drop_eq_nil_of_le (by rw [HM.out]; omega), unpGo]
            exact Lib.hid rfl
          have hres := um.res
          have ka : wr.cell? ⟨tb, 0, none⟩ = some (.int .u64 t) := um.att.cell 0
          have k0' : wr.cell? ⟨rb + 1, 0, none⟩ = some (.int .i64 k.kind) := um.key.cell 0
          have k7 : wr.cell? ⟨rb + 1, 7, none⟩ = some (.int .u64 k.number) := um.key.cell 7
          have k8 : wr.cell? ⟨rb + 1, 8, none⟩ = some (.int .i64 k.start) := um.key.cell 8
          have k8f : wr.frozen? ⟨rb + 1, 8, none⟩ = false := um.key.frozen 8
          have HUM := Lib.hid um
          have hcs : (ln ≠ 0 ∧ r = (zeroKy, 4)) ∨ (ln = 0 ∧ 4611686018427387903 < t ∧ r = (zeroKy, 4)) ∨ (ln = 0 ∧ t ≤ 4611686018427387903 ∧ k.kind = 100 ∧ 4611686018427387903 < k.number ∧ r = (zeroKy, 4)) ∨
              (ln = 0 ∧ t ≤ 4611686018427387903 ∧ (k.kind = 100 ∧ k.number ≤ 4611686018427387903) ∧ r = if kyChk { k with start := t } ≠ 0 then (zeroKy, kyChk { k with start := t }) else ({ k with start := t }, 0)) ∨
              (ln = 0 ∧ t ≤ 4611686018427387903 ∧ k.kind ≠ 100 ∧ r = if kyChk { k with start := t } ≠ 0 then (zeroKy, kyChk { k with start := t }) else ({ k with start := t }, 0)) := by
            have h := HE0.out
            unfold unpEnd at h
            simp only at h
            have hbe : bb ≠ [] ↔ ln ≠ 0 := by
              have := HLN.out
              constructor
              · rintro h rfl; exact h (List.eq_nil_of_length_eq_zero (by omega))
              · rintro h rfl; simp at this; omega
            by_cases c1 : ln = 0
            · by_cases c2 : 4611686018427387903 < t
              · rw [if_pos (.inr (.inl c2))] at h
                exact .inr (.inl ⟨c1, c2, h⟩)
              · by_cases c3 : k.kind = 100
                · by_cases c4 : 4611686018427387903 < k.number
                  · rw [if_pos (.inr (.inr ⟨c3, c4⟩))] at h
                    exact .inr (.inr (.inl ⟨c1, by omega, c3, c4, h⟩))
                  · rw [if_neg (by rintro (h1 | h1 | h1); exact hbe.1 h1 c1; exact c2 h1; exact c4 h1.2)] at h
                    exact .inr (.inr (.inr (.inl ⟨c1, by omega, ⟨c3, by omega⟩, h⟩)))
                · rw [if_neg (by rintro (h1 | h1 | h1); exact hbe.1 h1 c1; exact c2 h1; exact c3 h1.1)] at h
                  exact .inr (.inr (.inr (.inr ⟨c1, by omega, c3, h⟩)))
            · rw [if_pos (.inl (hbe.2 c1))] at h
              exact .inl ⟨c1, h⟩
          clear um
          rcases hcs with ⟨c1, he⟩ | ⟨c1, c2, he⟩ | ⟨c1, c2, c3, c4, he⟩ | ⟨c1, c2, c3, he⟩ | ⟨c1, c2, c3, he⟩
          case inl =>
            have HE := Lib.hid he
            have d1 : decide ((0 : Int) < (ln : Int)) = true := by simp; omega
            clear he
            go_upto_region 25 with fail
            go_wp2_with (refine wpList_store_row rfl 26 (.tmp 2) (.tmp 104) rfl rb zkyC rfl rfl 26 zkyC hres (by rfl) rfl zkyC_one ?_)
            refine bodyPost_ret (results_cell_row_tmpK rfl _ _ rb 26 zkyC _ rfl (hres.rowK zkyC) Try.underlying26 rfl (by rfl)) rfl ?_
            rw [HE.out]
            exact ⟨rfl, below_rowK HUM.out.bel HUM.out.o1 _⟩
          case inr.inl =>
            subst c1
            have HE := Lib.hid he
            have d2 : decide ((4611686018427387903 : Int) < (t : Int)) = true := by simp; omega
            clear he
            go_upto_region 25 with fail
            go_wp2_with (refine wpList_store_row rfl 26 (.tmp 2) (.tmp 104) rfl rb zkyC rfl rfl 26 zkyC hres (by rfl) rfl zkyC_one ?_)
            refine bodyPost_ret (results_cell_row_tmpK rfl _ _ rb 26 zkyC _ rfl (hres.rowK zkyC) Try.underlying26 rfl (by rfl)) rfl ?_
            rw [HE.out]
            exact ⟨rfl, below_rowK HUM.out.bel HUM.out.o1 _⟩
          case inr.inr.inl =>
            subst c1
            have HE := Lib.hid he
            have d2 : decide ((4611686018427387903 : Int) < (t : Int)) = false := by simp; omega
            have d3 : (k.kind == 100) = true := by rw [beq_iff_eq]; exact c3
            have d4 : decide ((4611686018427387903 : Int) < (k.number : Int)) = true := by simp; omega
            clear he c3
            go_upto_region 25 with fail
            go_wp2_with (refine wpList_store_row rfl 26 (.tmp 2) (.tmp 104) rfl rb zkyC rfl rfl 26 zkyC hres (by rfl) rfl zkyC_one ?_)
            refine bodyPost_ret (results_cell_row_tmpK rfl _ _ rb 26 zkyC _ rfl (hres.rowK zkyC) Try.underlying26 rfl (by rfl)) rfl ?_
            rw [HE.out]
            exact ⟨rfl, below_rowK HUM.out.bel HUM.out.o1 _⟩
          all_goals
            subst c1
            have d2 : decide ((4611686018427387903 : Int) < (t : Int)) = false := by simp; omega
            first
              | (have d3 : (k.kind == 100) = true := by rw [beq_iff_eq]; exact c3.1
                 have d4 : decide ((4611686018427387903 : Int) < (k.number : Int)) = false := by have := c3.2; simp; omega)
              | (have d3 : (k.kind == 100) = false := by rw [beq_eq_false_iff_ne]; exact c3)
            obtain ⟨k', hk'⟩ : ∃ k' : Ky, { k with start := (t : Int) } = k' := ⟨_, rfl⟩
            rw [hk'] at he
            have um2 : UnM w (wr.setCell ⟨rb + 1, 8, none⟩ (.int .i64 t)) rb (rb + 1) tb m1 m2 A l Ab bb k' t := by rw [← hk']; exact HUM.out.setKey 8 _ rfl
            obtain ⟨W5, hW5⟩ : ∃ W5, wr.setCell ⟨rb + 1, 8, none⟩ (.int .i64 t) = W5 := ⟨_, rfl⟩
            rw [hW5] at um2
            have HW5 := Lib.hid hW5
            have la := loadK_ky um2.key
            obtain ⟨q, hq'⟩ : ∃ q, kyChk k' = q := ⟨_, rfl⟩
            have cc := scCheck k' W5
            rw [hq'] at he cc
            have CC := Lib.hid cc
            have HE := Lib.hid he
            have HUM2 := Lib.hid um2
            clear c3 he hk' hW5 hq' cc um2
            go_upto_region 27 with fail
            rw [HW5.out]
            by_cases hq0 : q = 0
            · subst hq0
              go_upto_region 30 with (go_at_call 16; refine CC.out.mono ?_; rintro e w6 ⟨rfl, hb6⟩; have u6 := HUM2.out.below hb6; have la6 := loadK_ky u6.key; have r6 := u6.res)
              go_wp2_with (refine wpList_store_row rfl 26 (.tmp 2) (.tmp 114) rfl rb (kyC k') rfl rfl 26 zkyC r6 (by rfl) rfl (kyC_one k') ?_)
              refine bodyPost_ret (results_cell_row_tmpK rfl _ _ rb 26 (kyC k') _ rfl (r6.rowK (kyC k')) Try.underlying26 rfl (by rfl)) rfl ?_
              rw [HE.out]
              exact ⟨rfl, below_rowK u6.bel u6.o1 _⟩
            · have d5 : ((q : Int) != 0) = true := by rw [bne_iff_ne]; omega
              have HQ0 := Lib.hid hq0
              clear hq0
              go_upto_region 29 with (go_at_call 16; refine CC.out.mono ?_; rintro e w6 ⟨rfl, hb6⟩; have u6 := HUM2.out.below hb6; have la6 := loadK_ky u6.key; have r6 := u6.res)
              go_wp2_with (refine wpList_store_row rfl 26 (.tmp 2) (.tmp 112) rfl rb zkyC rfl rfl 26 zkyC r6 (by rfl) rfl zkyC_one ?_)
              refine bodyPost_ret (results_cell_row_tmpK rfl _ _ rb 26 zkyC _ rfl (r6.rowK zkyC) Try.underlying26 rfl (by rfl)) rfl ?_
              rw [HE.out, if_pos HQ0.out]
              exact ⟨rfl, below_rowK u6.bel u6.o1 _⟩
end Go.Proofs.Ytlamebbolioljaa

/- A reader's End. -/
namespace Go.Proofs.Ytlamebbolioljaa
open Go.RowKit
theorem rdrEnd {A : Option Addr} {c g p e : Nat} {zs : List Int} (w : World) (h : Rdr w g A c zs p e) (he : e ≤ 100) :
    Calls Try.prog 83 #[.pointer (some ⟨g, 0, none⟩)] w fun en w' => en = .returned (.int .i64 (if e ≠ 0 then e else if p < zs.length then 4 else 0 : Nat)) ∧ ∃ n, w' = w.drewN n := by
  have hpos := h.pos
  by_cases he0 : e = 0
  · subst he0
    by_cases hp : p < zs.length
    · have hd : 0 < zs.length - p := by omega
      rw [if_neg (by omega), if_pos hp]
      go_enter Try.func83, Try.ntmps83
      go_wp2_with (first | (go_at_call 82; refine (rdrErr _ h).mono ?_; rintro e w1 ⟨rfl, hw1⟩; subst hw1) | (go_at_call 98; refine (rdrLeft _ h).mono ?_; rintro e w1 ⟨rfl, n, hw1⟩; subst hw1))
      go_ret
      exact ⟨rfl, _, rfl⟩
    · have hd : zs.length - p = 0 := by omega
      have hrl := rdrLeft w h
      rw [hd] at hrl
      have HL := Lib.hid hrl
      clear hrl hd
      rw [if_neg (by omega), if_neg hp]
      go_enter Try.func83, Try.ntmps83
      go_wp2_with (first | (go_at_call 82; refine (rdrErr _ h).mono ?_; rintro e w1 ⟨rfl, hw1⟩; subst hw1) | (go_at_call 98; refine HL.out.mono ?_; rintro e w1 ⟨rfl, n, hw1⟩; subst hw1))
      go_ret
      exact ⟨rfl, _, rfl⟩
  · have hne : ((e : Int) != 0) = true := by rw [bne_iff_ne]; omega
    rw [if_pos he0]
    go_enter Try.func83, Try.ntmps83
    go_wp2_with (go_at_call 82; refine (rdrErr _ h).mono ?_; rintro e w1 ⟨rfl, hw1⟩; subst hw1)
    go_ret
    exact ⟨rfl, 0, rfl⟩
end Go.Proofs.Ytlamebbolioljaa
