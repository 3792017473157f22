/- Texts of the proof of SchemaNamesSaid, joined: SpC SpK SpL SpB SpD AdM SpR SpP. -/
import Derived.Test.YtlamebbolioljaaJSchemaNames2
import Derived.Deep.RegionHeld3
import Derived.Test.YtlamebbolioljaaJSchemaNames4
import Derived.Deep.Cut
import Derived.Deep.CutRange
import Derived.Test.YtlamebbolioljaaJSchemaNames3
import Derived.Laws.ResultCell
/- Spans: long, Check. -/
namespace Go.Proofs.Ytlamebbolioljaa
open Go.RowKit

/-- The first that p tells, or -1. -/
def idxT (p : Tg → Bool) (l : List Tg) : Int := match l.findIdx? p with | some i => (i : Int) | none => -1
theorem idxT_hit {p : Tg → Bool} {l : List Tg} {j : Nat} {x : Tg} (h : (l.take j).any p = false) (hx : l[j]? = some x) (hp : p x = true) : idxT p l = j := by
  have hj := (List.getElem?_eq_some_iff.1 hx).1
  have : l.findIdx? p = some j := by
    rw [List.findIdx?_eq_some_iff_getElem]
    refine ⟨hj, by rw [(List.getElem?_eq_some_iff.1 hx).2]; exact hp, fun i hi => ?_⟩
    have h1 := List.any_eq_false.1 h (l[i]'(by omega)) (List.mem_of_getElem? (i := i) (by rw [List.getElem?_take, if_pos hi]; exact List.getElem?_eq_getElem _))
    simpa using h1
  rw [idxT, this]
theorem idxT_none {p : Tg → Bool} {l : List Tg} (h : l.any p = false) : idxT p l = -1 := by
  have : l.findIdx? p = none := by
    rw [List.findIdx?_eq_none_iff]
    intro x hx
    have := List.any_eq_false.1 h x hx
    simpa using this
  rw [idxT, this]
theorem idxT_any (p : Tg → Bool) (l : List Tg) : decide (0 ≤ idxT p l) = l.any p := by
  by_cases h : l.any p = true
  · rw [h, decide_eq_true_iff, idxT]
    cases hf : l.findIdx? p with
    | none =>
      rw [List.findIdx?_eq_none_iff] at hf
      obtain ⟨x, hx, hp⟩ := List.any_eq_true.1 h
      rw [hf x hx] at hp
      cases hp
    | some i => simp only; omega
  · have h : l.any p = false := by simpa using h
    rw [h, idxT_none h]
    rfl

set_option maxHeartbeats 400000 in
theorem spIndexLong {A : Option Addr} {c n B : Nat} {l : List Tg} (w : World) (hf : RbT w B A l) (hn : l.length = n) (hB : B ≤ w.heap.size) (hnl : n ≤ 9223372036854775807) :
    Calls Try.prog 107 #[.slice A n c, .func (.func 104) #[] #[]] w fun e w' => e = .returned (.int .i64 (idxT tgLong l)) ∧ Below w.heap.size w w' := by
  have HN := Lib.hid hn
  obtain ⟨q, hq⟩ : ∃ q, idxT tgLong l = q := ⟨_, rfl⟩
  rw [hq]
  have HQ := Lib.hid hq
  clear hn hq
  go_enter Try.func107, Try.ntmps107
  go_wp2
  go_loopw [8] (fun iv_ wr => ∃ j : Nat, j ≤ n ∧ iv_ = .int .i64 j ∧ (l.take j).any tgLong = false ∧ Below w.heap.size w wr) (fun i _ => n - (intOf i).toNat)
  case atStart => exact ⟨0, by omega, rfl, rfl, Below.refl _ _⟩
  case round =>
    obtain ⟨j, hj, rfl, hall, hb⟩ := hrel
    have HA := Lib.hid hall
    clear hall
    by_cases hlt : j < n
    · have hlt' : (j : Int) < (n : Int) := by omega
      obtain ⟨x, hx⟩ : ∃ x, l[j]? = some x := ⟨_, List.getElem?_eq_getElem (by rw [HN.out]; exact hlt)⟩
      obtain ⟨b, o, rfl, hbb, h1, h2⟩ := RbT.get (Rd.below hf (hb.mono hB)) hx
      have HX := Lib.hid hx
      clear hx
      go_wp2_with (go_at_call 104; refine (spLong1 _ x).mono ?_; rintro e w' ⟨rfl, hb'⟩)
      · have hb2 := hb.trans (hb'.mono hb.size)
        rename_i hpx
        go_ret
        have hqt : q = (j : Int) := by
          rw [← HQ.out]
          exact idxT_hit HA.out HX.out (by first | exact hpx | simpa using hpx)
        exact ⟨by rw [hqt]; rfl, hb2⟩
      · have hb2 := hb.trans (hb'.mono hb.size)
        rename_i hpx
        go_roundw
        case rel => exact ⟨j + 1, by omega, by go_num, by rw [take_snoc HX.out, List.any_append, HA.out]; simpa using hpx, hb2⟩
        case measure => simp [intOf]; omega
    · have hlt' : decide ((j : Int) < (n : Int)) = false := by simp; omega
      go_wp2
      go_ret
      have : q = -1 := by
        rw [← HQ.out]
        have h1 := HA.out
        rw [List.take_of_length_le (by rw [HN.out]; omega)] at h1
        exact idxT_none h1
      exact ⟨by rw [this]; rfl, hb⟩

theorem spHasLong {A : Option Addr} {c n B : Nat} {l : List Tg} (w : World) (hf : RbT w B A l) (hn : l.length = n) (hB : B ≤ w.heap.size) (hnl : n ≤ 9223372036854775807) :
    Calls Try.prog 103 #[.slice A n c, .func (.func 104) #[] #[]] w fun e w' => e = .returned (.bool (l.any tgLong)) ∧ Below w.heap.size w w' := by
  have hc := spIndexLong (c := c) w hf hn hB hnl
  have ha := idxT_any tgLong l
  obtain ⟨q, hq⟩ : ∃ q, idxT tgLong l = q := ⟨_, rfl⟩
  rw [hq] at hc ha
  rw [← ha]
  have HC := Lib.hid hc
  clear hc hq ha
  go_enter Try.func103, Try.ntmps103
  go_wp2_with (go_at_call 107; refine HC.out.mono ?_; rintro e w' ⟨rfl, hb'⟩)
  go_ret
  exact ⟨rfl, hb'⟩

set_option maxHeartbeats 400000 in
theorem spLong {A : Option Addr} {c n B : Nat} (s : Sp) (w : World) (hf : RbT w B A s.tags) (hn : s.tags.length = n) (hB : B ≤ w.heap.size) (hnl : n ≤ 9223372036854775807) :
    Calls Try.prog 89 #[spV s A n c] w fun e w' => e = .returned (.bool (longB s)) ∧ Below w.heap.size w w' := by
  obtain ⟨q, hq⟩ : ∃ q, longB s = q := ⟨_, rfl⟩
  rw [hq]
  unfold longB at hq
  rw [hn] at hq
  have HQ := Lib.hid hq
  have hb0 : Below w.heap.size w (w.alloc (.cells (spC s A n c) 43)) := (Below.refl _ w).alloc (Nat.le_refl _) _
  have hf1 := Rd.alloc hf hB (.cells (spC s A n c) 43)
  clear hq
  by_cases h1 : 128 < s.service.size
  · have d1 : (128 : Int) < (s.service.size : Int) := by omega
    go_enter Try.func89, Try.ntmps89
    go_wp2
    go_ret
    have : q = true := by rw [← HQ.out]; simp [h1]
    exact ⟨by rw [this]; rfl, hb0⟩
  have d1 : decide ((128 : Int) < (s.service.size : Int)) = false := by simp; omega
  by_cases h2 : 128 < s.name.size
  · have d2 : (128 : Int) < (s.name.size : Int) := by omega
    go_enter Try.func89, Try.ntmps89
    go_wp2
    go_ret
    have : q = true := by rw [← HQ.out]; simp [h2]
    exact ⟨by rw [this]; rfl, hb0⟩
  have d2 : decide ((128 : Int) < (s.name.size : Int)) = false := by simp; omega
  by_cases h3 : 16 < n
  · have d3 : (16 : Int) < (n : Int) := by omega
    go_enter Try.func89, Try.ntmps89
    go_wp2
    go_ret
    have : q = true := by rw [← HQ.out]; simp [h3]
    exact ⟨by rw [this]; rfl, hb0⟩
  have d3 : decide ((16 : Int) < (n : Int)) = false := by simp; omega
  have hc := spHasLong (c := c) _ hf1 hn (by simp; omega) hnl
  obtain ⟨a, ha⟩ : ∃ a, s.tags.any tgLong = a := ⟨_, rfl⟩
  rw [ha] at hc
  have hqa : q = a := by rw [← HQ.out, ha]; simp [h1, h2, h3]
  have HC := Lib.hid hc
  clear hc ha
  go_enter Try.func89, Try.ntmps89
  go_wp2_with (go_at_call 103; refine HC.out.mono ?_; rintro e w' ⟨rfl, hb'⟩)
  go_ret
  exact ⟨by rw [hqa]; rfl, hb0.trans (hb'.mono (by simp))⟩
end Go.Proofs.Ytlamebbolioljaa

/- Spans: Check. -/
namespace Go.Proofs.Ytlamebbolioljaa
open Go.RowKit

theorem tagOk_at {l : List Tg} {i : Nat} {t : Tg} (h : l[i]? = some t) : tagOk l i = (nameB t.key && txtB t.val && (decide (i = 0) || match l[i - 1]? with | none => true | some u => strLt u.key t.key)) := by
  simp only [tagOk, h]
  rfl
set_option maxRecDepth 100000 in
set_option maxHeartbeats 2000000 in
/-- Check of a span that is not too long and whose head is right. -/
theorem spCheck1 {A : Option Addr} {c n B : Nat} (s : Sp) (w : World) (hf : RbT w B A s.tags) (hn : s.tags.length = n) (hB : B ≤ w.heap.size) (hnl : n ≤ 9223372036854775807) (hlong : longB s = false) (hhead : headB s = true) :
    Calls Try.prog 73 #[spV s A n c] w fun e w' => e = .returned (.int .i64 (if tagsOk s.tags n = true then 0 else 2 : Nat)) ∧ Below w.heap.size w w' := by
  have hb0 : Below w.heap.size w (w.alloc (.cells (spC s A n c) 43)) := (Below.refl _ w).alloc (Nat.le_refl _) _
  have hf1 := Rd.alloc hf hB (.cells (spC s A n c) 43)
  have bk := Bk.new w 43 (spC s A n c)
  have hs1 : (w.alloc (.cells (spC s A n c) 43)).heap.size = w.heap.size + 1 := by simp
  obtain ⟨w1, hw1⟩ : ∃ w1, w.alloc (.cells (spC s A n c) 43) = w1 := ⟨_, rfl⟩
  rw [hw1] at hb0 hf1 bk hs1
  have HW := Lib.hid hw1
  have hc := spLong (c := c) s w1 hf1 hn (by omega) hnl
  rw [hlong] at hc
  have HC := Lib.hid hc
  obtain ⟨q, hq⟩ : ∃ q, tagsOk s.tags n = q := ⟨_, rfl⟩
  rw [hq]
  have HQ := Lib.hid hq
  have HN := Lib.hid hn
  clear hw1 hc hq hn hlong
  simp only [headB, Bool.and_eq_true, Bool.or_eq_true, decide_eq_true_eq, ne_eq] at hhead
  obtain ⟨⟨⟨⟨⟨⟨⟨⟨⟨h0, h1⟩, h2⟩, h3⟩, h4⟩, h5⟩, h6⟩, h7⟩, h8⟩, h9⟩ := hhead
  have N2 := Lib.hid h2
  have N3 := Lib.hid h3
  have d1 : ((s.id : Int) != 0) = true := by rw [bne_iff_ne]; omega
  go_enter Try.func73, Try.ntmps73
  go_wp2_with fail
  rw [HW.out]
  refine HC.out.mono ?_
  rintro e w2 ⟨rfl, hb2⟩
  have hs2 := hb2.size
  have hb02 := hb0.trans (hb2.mono (by omega))
  have hf2 := (Rd.below hf1 (hb2.mono (by omega))).more (show B ≤ w2.heap.size by omega)
  have bk2 := bk.below hb2 (by omega)
  obtain ⟨g, hg⟩ : ∃ g, w.heap.size = g := ⟨_, rfl⟩
  rw [hg] at bk2 ⊢
  have k0 : w2.cell? ⟨g, 0, none⟩ = some (.int .u64 s.hi) := bk2.cell 0
  have k1 : w2.cell? ⟨g, 1, none⟩ = some (.int .u64 s.lo) := bk2.cell 1
  have k2 : w2.cell? ⟨g, 2, none⟩ = some (.int .u64 s.id) := bk2.cell 2
  have k4 : w2.cell? ⟨g, 4, none⟩ = some (.string s.service) := bk2.cell 4
  have k5 : w2.cell? ⟨g, 5, none⟩ = some (.string s.name) := bk2.cell 5
  have k6 : w2.cell? ⟨g, 6, none⟩ = some (.int .i64 s.kind) := bk2.cell 6
  have k7 : w2.cell? ⟨g, 7, none⟩ = some (.int .i64 s.start) := bk2.cell 7
  have k8 : w2.cell? ⟨g, 8, none⟩ = some (.int .i64 s.length) := bk2.cell 8
  have k10 : w2.cell? ⟨g, 10, none⟩ = some (.slice A n c) := bk2.cell 10
  clear bk hf1 hb0 HW
  have HHS := Lib.hid hs2
  have HH1 := Lib.hid hs1
  have HHB := Lib.hid hB
  have HHG := Lib.hid hg
  have HB02 := Lib.hid hb02
  have HF2 := Lib.hid hf2
  have HBK := Lib.hid bk2
  clear hs2 hs1 hB hg hb02 hf2 bk2 hf hb2 h2 h3
  have h6' : decide (s.kind ≤ 5) = true := by simpa using h5
  go_wp2_with (first
    | (go_at_call 90; refine (spName _ _).mono ?_; rintro e w' ⟨rfl, hw⟩; rw [hw]; clear hw w'; first | rw [N2.out] | rw [N3.out]))
  all_goals
    go_loopw [3, 63] (fun fv iv_ wr => ∃ j : Nat, j ≤ n ∧ iv_ = .int .i64 j ∧ fv = .bool (tagsOk s.tags j) ∧ Below w2.heap.size w2 wr) (fun _ i _ => n - (intOf i).toNat)
    case atStart => exact ⟨0, by omega, rfl, rfl, Below.refl _ _⟩
    case round =>
      obtain ⟨j, hj, rfl, rfl, hb⟩ := hrel
      obtain ⟨f, hf⟩ : ∃ f, tagsOk s.tags j = f := ⟨_, rfl⟩
      rw [hf]
      have HF := Lib.hid hf
      clear hf
      have hgl : g < w2.heap.size := by have := HHG.out; have := HHS.out; have := HH1.out; omega
      by_cases hlt : j < n
      · have hlt' : (j : Int) < (n : Int) := by omega
        obtain ⟨x, hx⟩ : ∃ x, s.tags[j]? = some x := ⟨_, List.getElem?_eq_getElem (by rw [HN.out]; exact hlt)⟩
        have hRb : Rd wr w2.heap.size A (tgs s.tags) := (Rd.more HF2.out (Nat.le_refl _)).below hb
        obtain ⟨b, o, rfl, hbb, c1, c2⟩ := RbT.get hRb hx
        have k10' : wr.cell? ⟨g, 10, none⟩ = some (.slice (some ⟨b, o, none⟩) n c) := (hb.cell (p := ⟨g, 10, none⟩) hgl).trans k10
        have HX := Lib.hid hx
        clear hx
        go_wp2_with fail
        have hsr := hb.size
        have m0 : (wr.alloc (.cells #[.string x.key, .string x.val] 97)).cell? ⟨wr.heap.size, 0, none⟩ = some (.string x.key) := (Bk.new wr 97 #[.string x.key, .string x.val]).cell 0
        have m1 : (wr.alloc (.cells #[.string x.key, .string x.val] 97)).cell? ⟨wr.heap.size, 1, none⟩ = some (.string x.val) := (Bk.new wr 97 #[.string x.key, .string x.val]).cell 1
        have k10W := (World.cell?_alloc_lt wr (.cells #[.string x.key, .string x.val] 97) ⟨g, 10, none⟩ (by simp only; omega)).trans k10'
        have hRW := Rd.alloc hRb hsr (.cells #[.string x.key, .string x.val] 97)
        have hbW := hb.alloc hsr (.cells #[.string x.key, .string x.val] 97)
        obtain ⟨W, hW⟩ : ∃ W, wr.alloc (.cells #[.string x.key, .string x.val] 97) = W := ⟨_, rfl⟩
        rw [hW] at m0 m1 k10W hRW hbW ⊢
        obtain ⟨r, hr⟩ : ∃ r, wr.heap.size = r := ⟨_, rfl⟩
        rw [hr] at m0 m1 ⊢
        have HHRW := Lib.hid hRW
        have HBW := Lib.hid hbW
        clear hW hr hsr hRW hbW hRb hb hgl
        have hstep : tagsOk s.tags (j + 1) = (f && (nameB x.key && txtB x.val && (decide (j = 0) || match s.tags[j - 1]? with | none => true | some u => strLt u.key x.key))) := by
          rw [tagsOk_succ, HF.out, tagOk_at HX.out]
        by_cases hft : f = false
        · subst hft
          have HST : Hid (tagsOk s.tags (j + 1) = false) := by rw [hstep]; rfl
          clear hstep
          go_quiet (fail)
          go_wp2
          go_roundw
          case rel => exact ⟨j + 1, by omega, by go_num, by rw [HST.out], below_drewN HBW.out _⟩
          case measure => simp [intOf]; omega
        obtain rfl : f = true := by simpa using hft
        obtain ⟨n1, hn1⟩ : ∃ n1, nameB x.key = n1 := ⟨_, rfl⟩
        have cN : ∀ W', Calls Try.prog 90 #[.string x.key] W' fun e w' => e = .returned (.bool n1) ∧ w' = W' := by intro W'; have := spName W' x.key; rwa [hn1] at this
        rw [hn1] at hstep
        clear hn1 hft
        cases n1 with
        | false =>
          have HST : Hid (tagsOk s.tags (j + 1) = false) := by rw [hstep]; rfl
          clear hstep
          go_quiet ((go_at_call 90; go_loud (exact Calls.quiet_of_same (cN _))))
          go_wp2
          go_roundw
          case rel => exact ⟨j + 1, by omega, by go_num, by rw [HST.out], below_drewN HBW.out _⟩
          case measure => simp [intOf]; omega
        | true =>
        obtain ⟨t1, ht1⟩ : ∃ t1, txtB x.val = t1 := ⟨_, rfl⟩
        have cT : ∀ W', Calls Try.prog 37 #[.string x.val] W' fun e w' => e = .returned (.bool t1) ∧ w' = W' := by intro W'; have := spText W' x.val; rwa [ht1] at this
        rw [ht1] at hstep
        clear ht1
        cases t1 with
        | false =>
          have HST : Hid (tagsOk s.tags (j + 1) = false) := by rw [hstep]; rfl
          clear hstep
          go_quiet (first
            | (go_at_call 90; go_loud (exact Calls.quiet_of_same (cN _)))
            | (go_at_call 37; go_loud (exact Calls.quiet_of_same (cT _))))
          go_wp2
          go_roundw
          case rel => exact ⟨j + 1, by omega, by go_num, by rw [HST.out], below_drewN HBW.out _⟩
          case measure => simp [intOf]; omega
        | true =>
        cases j with
        | zero =>
          have HST : Hid (tagsOk s.tags (0 + 1) = true) := by rw [hstep]; rfl
          clear hstep
          go_quiet (first
            | (go_at_call 90; go_loud (exact Calls.quiet_of_same (cN _)))
            | (go_at_call 37; go_loud (exact Calls.quiet_of_same (cT _))))
          go_wp2
          go_roundw
          case rel => exact ⟨0 + 1, by omega, by go_num, by rw [HST.out], below_drewN HBW.out _⟩
          case measure => simp [intOf]; omega
        | succ k =>
          obtain ⟨u, hu⟩ : ∃ u, s.tags[k]? = some u := ⟨_, List.getElem?_eq_getElem (by rw [HN.out]; omega)⟩
          obtain ⟨b', o', e', _, p1, _⟩ := RbT.get HHRW.out hu
          cases e'
          have e1 : (k : Int) + 1 - 1 = (k : Int) := by omega
          have e2 : ((k : Int) + 1 == 0) = false := by rw [beq_eq_false_iff_ne]; omega
          have hkn : (k : Int) < (n : Int) := by omega
          have hkn' : k < n := by omega
          have hst : tagsOk s.tags (k + 1 + 1) = strLt u.key x.key := by rw [hstep, show k + 1 - 1 = k from rfl, hu]; simp
          have HST := Lib.hid hst
          clear hst
          clear hstep hu c1 c2
          go_quiet (first
            | (go_at_call 90; go_loud (exact Calls.quiet_of_same (cN _)))
            | (go_at_call 37; go_loud (exact Calls.quiet_of_same (cT _))))
          go_wp2
          go_roundw
          case rel => exact ⟨k + 1 + 1, by omega, by go_num, by rw [HST.out]; rfl, below_drewN HBW.out _⟩
          case measure => simp [intOf]; omega
      · have hlt' : decide ((j : Int) < (n : Int)) = false := by simp; omega
        obtain rfl : j = n := by omega
        have hqf : f = q := by rw [← HF.out, HQ.out]
        subst hqf
        cases f
        · go_wp2
          go_ret
          exact ⟨rfl, HB02.out.trans (hb.mono (by have := HHS.out; have := HH1.out; omega))⟩
        · go_wp2
          go_ret
          exact ⟨rfl, HB02.out.trans (hb.mono (by have := HHS.out; have := HH1.out; omega))⟩
end Go.Proofs.Ytlamebbolioljaa

/- Spans: Check of a span whose head is not right; Check of any span. -/
namespace Go.Proofs.Ytlamebbolioljaa
open Go.RowKit

set_option maxRecDepth 100000 in
set_option maxHeartbeats 8000000 in
/-- Check of a span that is not too long and whose head is not right. -/
theorem spCheck0 {A : Option Addr} {c n B : Nat} (s : Sp) (w : World) (hf : RbT w B A s.tags) (hn : s.tags.length = n) (hB : B ≤ w.heap.size) (hnl : n ≤ 9223372036854775807) (hlong : longB s = false) (hhead : headB s = false) :
    Calls Try.prog 73 #[spV s A n c] w fun e w' => e = .returned (.int .i64 2) ∧ Below w.heap.size w w' := by
  have hb0 : Below w.heap.size w (w.alloc (.cells (spC s A n c) 43)) := (Below.refl _ w).alloc (Nat.le_refl _) _
  have hf1 := Rd.alloc hf hB (.cells (spC s A n c) 43)
  have bk := Bk.new w 43 (spC s A n c)
  have hs1 : (w.alloc (.cells (spC s A n c) 43)).heap.size = w.heap.size + 1 := by simp
  obtain ⟨w1, hw1⟩ : ∃ w1, w.alloc (.cells (spC s A n c) 43) = w1 := ⟨_, rfl⟩
  rw [hw1] at hb0 hf1 bk hs1
  have HW := Lib.hid hw1
  have hc := spLong (c := c) s w1 hf1 hn (by omega) hnl
  rw [hlong] at hc
  have HC := Lib.hid hc
  have HN := Lib.hid hn
  clear hw1 hc hn hlong
  have hcase : (s.hi = 0 ∧ s.lo = 0) ∨ ((s.hi ≠ 0 ∨ s.lo ≠ 0) ∧ (s.id = 0 ∨ s.id ≠ 0 ∧ (nameB s.service = false ∨ nameB s.service = true ∧ (nameB s.name = false ∨ nameB s.name = true ∧ (decide (0 ≤ s.kind) = false ∨ 0 ≤ s.kind ∧ (decide (s.kind ≤ 5) = false ∨ s.kind ≤ 5 ∧
      (decide (0 ≤ s.start) = false ∨ 0 ≤ s.start ∧ (decide (0 ≤ s.length) = false ∨ 0 ≤ s.length ∧ (decide (s.start ≤ 4611686018427387903) = false ∨ s.start ≤ 4611686018427387903 ∧ decide (s.length ≤ 4611686018427387903 - s.start) = false))))))))) := by
    by_cases a0 : s.hi = 0 ∧ s.lo = 0
    · exact .inl a0
    refine .inr ⟨by omega, ?_⟩
    by_cases a1 : s.id = 0
    · exact .inl a1
    refine .inr ⟨a1, ?_⟩
    cases a2 : nameB s.service with
    | false => exact .inl rfl
    | true =>
    refine .inr ⟨rfl, ?_⟩
    cases a3 : nameB s.name with
    | false => exact .inl rfl
    | true =>
    refine .inr ⟨rfl, ?_⟩
    by_cases a4 : 0 ≤ s.kind
    case neg => exact .inl (by simpa using a4)
    refine .inr ⟨a4, ?_⟩
    by_cases a5 : s.kind ≤ 5
    case neg => exact .inl (by simpa using a5)
    refine .inr ⟨a5, ?_⟩
    by_cases a6 : 0 ≤ s.start
    case neg => exact .inl (by simpa using a6)
    refine .inr ⟨a6, ?_⟩
    by_cases a7 : 0 ≤ s.length
    case neg => exact .inl (by simpa using a7)
    refine .inr ⟨a7, ?_⟩
    by_cases a8 : s.start ≤ 4611686018427387903
    case neg => exact .inl (by simpa using a8)
    refine .inr ⟨a8, ?_⟩
    by_cases a9 : s.length ≤ 4611686018427387903 - s.start
    case neg => simpa using a9
    have : headB s = true := by
      simp only [headB, a2, a3, Bool.and_eq_true, Bool.or_eq_true, decide_eq_true_eq, ne_eq]
      exact ⟨⟨⟨⟨⟨⟨⟨⟨⟨by omega, a1⟩, trivial⟩, trivial⟩, a4⟩, a5⟩, a6⟩, a7⟩, a8⟩, a9⟩
    rw [hhead] at this
    cases this
  have HCASE := Lib.hid hcase
  clear hcase hhead
  go_enter Try.func73, Try.ntmps73
  go_wp2_with fail
  rw [HW.out]
  refine HC.out.mono ?_
  rintro e w2 ⟨rfl, hb2⟩
  have hs2 := hb2.size
  have hb02 := hb0.trans (hb2.mono (by omega))
  have hf2 := (Rd.below hf1 (hb2.mono (by omega))).more (show B ≤ w2.heap.size by omega)
  have bk2 := bk.below hb2 (by omega)
  obtain ⟨g, hg⟩ : ∃ g, w.heap.size = g := ⟨_, rfl⟩
  rw [hg] at bk2 ⊢
  have k0 : w2.cell? ⟨g, 0, none⟩ = some (.int .u64 s.hi) := bk2.cell 0
  have k1 : w2.cell? ⟨g, 1, none⟩ = some (.int .u64 s.lo) := bk2.cell 1
  have k2 : w2.cell? ⟨g, 2, none⟩ = some (.int .u64 s.id) := bk2.cell 2
  have k4 : w2.cell? ⟨g, 4, none⟩ = some (.string s.service) := bk2.cell 4
  have k5 : w2.cell? ⟨g, 5, none⟩ = some (.string s.name) := bk2.cell 5
  have k6 : w2.cell? ⟨g, 6, none⟩ = some (.int .i64 s.kind) := bk2.cell 6
  have k7 : w2.cell? ⟨g, 7, none⟩ = some (.int .i64 s.start) := bk2.cell 7
  have k8 : w2.cell? ⟨g, 8, none⟩ = some (.int .i64 s.length) := bk2.cell 8
  have k10 : w2.cell? ⟨g, 10, none⟩ = some (.slice A n c) := bk2.cell 10
  clear bk hf1 hb0 HW
  have HHS := Lib.hid hs2
  have HH1 := Lib.hid hs1
  have HHB := Lib.hid hB
  have HHG := Lib.hid hg
  have HB02 := Lib.hid hb02
  have HF2 := Lib.hid hf2
  have HBK := Lib.hid bk2
  clear hs2 hs1 hB hg hb02 hf2 bk2 hf hb2
  have hcase := HCASE.out
  clear HCASE
  rcases hcase with ⟨a0, a0'⟩ | ⟨a0, a1 | ⟨a1, a2 | ⟨a2, a3 | ⟨a3, a4 | ⟨a4, a5 | ⟨a5, a6 | ⟨a6, a7 | ⟨a7, a8 | ⟨a8, a9⟩⟩⟩⟩⟩⟩⟩⟩⟩
  all_goals first
    | (have d1 : ((s.id : Int) != 0) = true := by rw [bne_iff_ne]; omega)
    | (have d1 : ((s.id : Int) != 0) = false := by rw [a1]; rfl)
    | skip
  all_goals go_wp2_with (first
    | (go_at_call 90; refine (spName _ _).mono ?_; rintro e w' ⟨rfl, hw⟩; rw [hw]; clear hw w'; first | rw [a2] | rw [a3]))
  all_goals
    go_loopw [3, 63] (fun fv iv_ wr => ∃ j : Nat, j ≤ n ∧ iv_ = .int .i64 j ∧ fv = .bool false ∧ Below w2.heap.size w2 wr) (fun _ i _ => n - (intOf i).toNat)
    case atStart => exact ⟨0, by omega, rfl, rfl, Below.refl _ _⟩
    case round =>
      obtain ⟨j, hj, rfl, rfl, hb⟩ := hrel
      have hgl : g < w2.heap.size := by have := HHG.out; have := HHS.out; have := HH1.out; omega
      by_cases hlt : j < n
      · have hlt' : (j : Int) < (n : Int) := by omega
        obtain ⟨x, hx⟩ : ∃ x, s.tags[j]? = some x := ⟨_, List.getElem?_eq_getElem (by rw [HN.out]; exact hlt)⟩
        have hRb : Rd wr w2.heap.size A (tgs s.tags) := (Rd.more HF2.out (Nat.le_refl _)).below hb
        obtain ⟨b, o, rfl, hbb, c1, c2⟩ := RbT.get hRb hx
        have k10' : wr.cell? ⟨g, 10, none⟩ = some (.slice (some ⟨b, o, none⟩) n c) := (hb.cell (p := ⟨g, 10, none⟩) hgl).trans k10
        have HX := Lib.hid hx
        clear hx
        go_wp2_with fail
        have hbW := hb.alloc hb.size (.cells #[.string x.key, .string x.val] 97)
        obtain ⟨W, hW⟩ : ∃ W, wr.alloc (.cells #[.string x.key, .string x.val] 97) = W := ⟨_, rfl⟩
        rw [hW] at hbW ⊢
        have HBW := Lib.hid hbW
        clear hW hbW hRb hb hgl c1 c2 k10'
        go_quiet (fail)
        go_wp2
        go_roundw
        case rel => exact ⟨j + 1, by omega, by go_num, rfl, below_drewN HBW.out _⟩
        case measure => simp [intOf]; omega
      · have hlt' : decide ((j : Int) < (n : Int)) = false := by simp; omega
        go_wp2
        go_ret
        exact ⟨rfl, HB02.out.trans (hb.mono (by have := HHS.out; have := HH1.out; omega))⟩

set_option maxHeartbeats 400000 in
/-- Check of any span. -/
theorem spCheck {A : Option Addr} {c n B : Nat} (s : Sp) (w : World) (hf : RbT w B A s.tags) (hn : s.tags.length = n) (hB : B ≤ w.heap.size) (hnl : n ≤ 9223372036854775807) :
    Calls Try.prog 73 #[spV s A n c] w fun e w' => e = .returned (.int .i64 (spChk s)) ∧ Below w.heap.size w w' := by
  cases hl : longB s with
  | true =>
    have hr : spChk s = 3 := by rw [spChk, if_pos hl]
    rw [hr]
    have hf1 := Rd.alloc hf hB (.cells (spC s A n c) 43)
    have hb0 : Below w.heap.size w (w.alloc (.cells (spC s A n c) 43)) := (Below.refl _ w).alloc (Nat.le_refl _) _
    have hc := spLong (c := c) s _ hf1 hn (by simp; omega) hnl
    rw [hl] at hc
    have HC := Lib.hid hc
    clear hc hl
    go_enter Try.func73, Try.ntmps73
    go_wp2_with fail
    refine HC.out.mono ?_
    rintro e w2 ⟨rfl, hb2⟩
    go_wp2
    go_ret
    exact ⟨rfl, hb0.trans (hb2.mono (by simp))⟩
  | false =>
    cases hh : headB s with
    | false =>
      have hr : spChk s = 2 := by rw [spChk, hl, hh]; rfl
      rw [hr]
      exact spCheck0 s w hf hn hB hnl hl hh
    | true =>
      have hr : spChk s = if tagsOk s.tags n = true then 0 else 2 := by rw [spChk, hl, hh, hn]; rfl
      rw [hr]
      exact spCheck1 s w hf hn hB hnl hl hh
end Go.Proofs.Ytlamebbolioljaa

/- Spans: Append. -/
namespace Go.Proofs.Ytlamebbolioljaa
open Go.RowKit

def Sp.U64 (s : Sp) : Prop := s.hi < 18446744073709551616 ∧ s.lo < 18446744073709551616 ∧ s.id < 18446744073709551616 ∧ s.parent < 18446744073709551616
def tgEnc (t : Tg) : List Int := pie t.key ++ pie t.val
def spHead (s : Sp) : List Int := [s.hi, s.lo, s.id, s.parent].flatMap ordEnc ++ (pie s.service ++ pie s.name) ++ [s.kind % 256] ++ (numEnc s.start.toNat ++ numEnc s.length.toNat) ++ [if s.fails = true then 1 else 0] ++ numEnc s.tags.length
def spEnc (s : Sp) : List Int := spHead s ++ s.tags.flatMap tgEnc

/-- append of bytes, at a step of a region that draws its order. -/
theorem step_appb {w : World} {ops : Array Oper} {o : Oper} {a : Act} {K : Act → World → Prop} {Q : Exit → Act → World → Prop} {E : Prop} (hgd : o.guard = none) (s x : Operand)
    (ho : o.op = .call { callee := .builtin .append, args := #[s, x], argTypes := #[27, 27] })
    (base : Nat) (v : Value) (n : Nat) (xs : List Int) (hs : a.eval s = v) (hown : w.ownsRow base 5 1 v n (bv xs))
    (B : Nat) (A : Option Addr) (m c : Nat) (news : List Int) (hx : a.eval x = .slice A m c) (hl : news.length = m) (hr : Rb w B A news)
    (hbytes : n + m ≤ 140737488355328) (hbase : base ≤ w.heap.size)
    (h : ∀ A' c' w', App base 5 1 w v w' (.slice A' (n + m) c') (n + m) (bv (xs ++ news)) → (A' = none → v = .slice none 0 0 ∧ m = 0) → K (a.put o.dst (.slice A' (n + m) c')) w') :
    if Region.wanted o (yielded ops a.tmps) = true then Oper.wp Try.prog o a w K Q else E := by
  have hw : Region.wanted o (yielded ops a.tmps) = true := by simp [Region.wanted, hgd]
  rw [if_pos hw]
  obtain ⟨i0, hi0, hz0, hz1, hz2⟩ := info_parts u8info
  refine wp_app w s x _ ho base 5 i0 _ 1 1 Try.underlying27 hi0 hz0 hz1 hz2 rfl (by omega) v n (bv xs) hs hown B A m c (bv news) hx (by rw [bv_length]; omega) hr (bv_one news) (by simp only [maxLen]; omega) (by omega) hbase ?_
  intro A' c' w' h1 h2 h3 h4
  rw [← bv_append] at h1
  exact h A' c' w' ((App.refl hown).step h1 h2 h3) h4

set_option maxHeartbeats 400000 in
theorem slClone {A : Option Addr} {c B n : Nat} {xs : List Int} (w : World) (ha : Rb w B A xs) (hB : B ≤ w.heap.size) (hx : xs.length ≤ 140737488351232) (hc : A = none → xs = [] ∧ c = 0) (hn : xs.length = n) :
    Calls Try.prog 74 #[.slice A n c] w (RetNew 5 1 w n (bv xs) (fun A' => A' = none → A = none)) := by
  subst hn
  cases A with
  | none =>
    obtain ⟨rfl, rfl⟩ := hc rfl
    go_enter Try.func74, Try.ntmps74
    go_wp2
    go_ret
    exact ⟨none, 0, rfl, App.refl (World.ownsRow_nil _ _ _ _), by simp⟩
  | some a =>
    go_enter Try.func74, Try.ntmps74
    go_wp2_with (at_builtin; go_loud (refine wpList_appb _ rfl (.tmp 5) (.tmp 6) rfl w.heap.size _ 0 [] rfl (World.ownsRow_lit w #[] 0 (Nat.le_refl _) (by simp [maxLen]) rfl) B _ xs.length c xs rfl rfl (ha.alloc hB _) (by omega) (by simp) ?_))
    intro A' c' w' happ hne
    go_wp2
    go_ret
    exact ⟨A', c', rfl, happ.fresh1, fun h => absurd h hne⟩
theorem spTruth (w : World) (b : Bool) : Calls Try.prog 76 #[.bool b] w fun e w' => e = .returned (.int .i64 (if b = true then 1 else 0)) ∧ w' = w := by
  cases b
  · go_enter Try.func76, Try.ntmps76
    go_wp2
    go_ret
    exact ⟨rfl, rfl⟩
  · go_enter Try.func76, Try.ntmps76
    go_wp2
    go_ret
    exact ⟨rfl, rfl⟩

/-- Append hands back bytes of its own. -/
def AppPost (w : World) (zs : List Int) (s : Sp) (e : Ending) (w' : World) : Prop :=
  Below w.heap.size w w' ∧ ((spChk s ≠ 0 ∧ e = .returned (.tuple #[.slice none 0 0, .int .i64 (spChk s)])) ∨
    (spChk s = 0 ∧ ∃ A' c', e = .returned (.tuple #[.slice A' (zs ++ spEnc s).length c', .int .i64 0]) ∧ Rb w' w'.heap.size A' (zs ++ spEnc s) ∧ (zs ++ spEnc s).length ≤ c' ∧ ∀ a, A' = some a → w.heap.size ≤ a.block))
end Go.Proofs.Ytlamebbolioljaa

/- Spans: the walk of Append. -/
namespace Go.Proofs.Ytlamebbolioljaa
open Go.RowKit

theorem ordsLen (l : List Nat) : (l.flatMap ordEnc).length = l.length * 8 := by
  induction l with
  | nil => rfl
  | cons x l ih => rw [List.flatMap_cons, List.length_append, ih, ordEnc_len, List.length_cons]; omega
theorem own_downK {w : World} {base base' size n : Nat} {e : TypeId} {v : Value} {xs : List Value} (h : w.ownsRow base e size v n xs) (hb : base' ≤ base) : w.ownsRow base' e size v n xs :=
  ⟨h.1, h.2.imp id fun ⟨g, cap, cur, hv, hg, r⟩ => ⟨g, cap, cur, hv, Nat.le_trans hb hg, r⟩⟩
/-- Append's answer: a row of its own. -/
def AppPost2 (w : World) (zs : List Int) (s : Sp) (e : Ending) (w' : World) : Prop :=
  Below w.heap.size w w' ∧ ((spChk s ≠ 0 ∧ e = .returned (.tuple #[.slice none 0 0, .int .i64 (spChk s)])) ∨
    (spChk s = 0 ∧ ∃ A' c', e = .returned (.tuple #[.slice A' (zs ++ spEnc s).length c', .int .i64 0]) ∧ w'.ownsRow w.heap.size 5 1 (.slice A' (zs ++ spEnc s).length c') (zs ++ spEnc s).length (bv (zs ++ spEnc s)) ∧ (zs ++ spEnc s).length ≤ c'))
set_option maxRecDepth 100000 in
set_option maxHeartbeats 4000000 in
theorem spAppend2 {A0 At : Option Addr} {c0 ct B n nt : Nat} {zs : List Int} (s : Sp) (w : World) (ha : Rb w B A0 zs) (hB : B ≤ w.heap.size) (hz : zs.length ≤ 1099511627776) (hc : A0 = none → zs = [] ∧ c0 = 0) (hn : zs.length = n)
    (hf : RbT w B At s.tags) (hnt : s.tags.length = nt) (hnl : nt ≤ 9223372036854775807) (hu : s.U64) :
    Calls Try.prog 53 #[.slice A0 n c0, spV s At nt ct] w (AppPost2 w zs s) := by
  have hb0 : Below w.heap.size w (w.alloc (.cells (spC s At nt ct) 43)) := (Below.refl _ w).alloc (Nat.le_refl _) _
  have hf1 := Rd.alloc hf hB (.cells (spC s At nt ct) 43)
  have ha1 := Rd.alloc ha hB (.cells (spC s At nt ct) 43)
  have bk := Bk.new w 43 (spC s At nt ct)
  have hs1 : (w.alloc (.cells (spC s At nt ct) 43)).heap.size = w.heap.size + 1 := by simp
  obtain ⟨w1, hw1⟩ : ∃ w1, w.alloc (.cells (spC s At nt ct) 43) = w1 := ⟨_, rfl⟩
  rw [hw1] at hb0 hf1 ha1 bk hs1
  have HW := Lib.hid hw1
  have hc1 := spCheck (c := ct) s w1 hf1 hnt (by omega) hnl
  obtain ⟨k, hk⟩ : ∃ k, spChk s = k := ⟨_, rfl⟩
  rw [hk] at hc1
  have HC := Lib.hid hc1
  have HK := Lib.hid hk
  have HN := Lib.hid hn
  have HNT := Lib.hid hnt
  clear hw1 hc1 hk hn hnt
  go_enter Try.func53, Try.ntmps53
  go_wp2_with fail
  rw [HW.out]
  refine HC.out.mono ?_
  rintro e w2 ⟨rfl, hb2⟩
  have hs2 := hb2.size
  have hb02 := hb0.trans (hb2.mono (by omega))
  have hf2 := Rd.below hf1 (hb2.mono (by omega))
  have ha2 := Rd.below ha1 (hb2.mono (by omega))
  have bk2 := bk.below hb2 (by omega)
  clear bk hf1 ha1 hb0 HW hb2 ha hf HC
  by_cases hk0 : k = 0
  case neg =>
    have hk1 : ((k : Int) != 0) = true := by rw [bne_iff_ne]; omega
    go_wp2
    go_ret2
    exact ⟨hb02, .inl ⟨by rw [HK.out]; exact hk0, by rw [HK.out]; rfl⟩⟩
  subst hk0
  -- what Check has seen
  have hk := HK.out
  have hlong : longB s = false := by
    cases h : longB s with
    | false => rfl
    | true => rw [spChk, if_pos h] at hk; cases hk
  have hhead : headB s = true := by
    cases h : headB s with
    | true => rfl
    | false => rw [spChk, if_neg (by rw [hlong]; simp), h] at hk; simp at hk
  simp only [headB, Bool.and_eq_true, Bool.or_eq_true, decide_eq_true_eq, ne_eq] at hhead
  obtain ⟨⟨⟨⟨⟨⟨⟨⟨⟨h0, h1⟩, h2⟩, h3⟩, h4⟩, h5⟩, h6⟩, h7⟩, h8⟩, h9⟩ := hhead
  simp only [longB, Bool.or_eq_false_iff, decide_eq_false_iff_not] at hlong
  obtain ⟨⟨⟨l1, l2⟩, l3⟩, l4⟩ := hlong
  have hnt16 : nt ≤ 16 := by have := HNT.out; omega
  have L4 : Hid (∀ t ∈ s.tags, t.key.size ≤ 128 ∧ t.val.size ≤ 128) := fun t ht => by
    have := List.any_eq_false.1 l4 t ht
    simp [tgLong] at this
    exact this
  have L1 := Lib.hid l1
  have L2 := Lib.hid l2
  have HH := Lib.hid (And.intro h6 (And.intro h7 (And.intro h8 h9)))
  clear hk h0 h1 h2 h3 l1 l2 l3 l4 hnl h8 h9
  obtain ⟨g, hg⟩ : ∃ g, w.heap.size = g := ⟨_, rfl⟩
  have hgl := bk2.lt
  rw [hg] at bk2 hgl ⊢
  have k0 : w2.cell? ⟨g, 0, none⟩ = some (.int .u64 s.hi) := bk2.cell 0
  go_wp2_with fail
  refine (slClone w2 ha2 (by omega) (by omega) hc HN.out).mono ?_
  rintro e w3 ⟨A3, c3, rfl, happ, hne⟩
  have HB : Hid (Bk w2 g 43 (spC s At nt ct)) := bk2
  have HF : Hid (RbT w2 B At s.tags) := hf2
  have HBW := Lib.hid hb02
  have bk3 := bk2.below happ.below0 hgl
  have k0 : w3.cell? ⟨g, 0, none⟩ = some (.int .u64 s.hi) := bk3.cell 0
  have k1 : w3.cell? ⟨g, 1, none⟩ = some (.int .u64 s.lo) := bk3.cell 1
  have k2 : w3.cell? ⟨g, 2, none⟩ = some (.int .u64 s.id) := bk3.cell 2
  have k3 : w3.cell? ⟨g, 3, none⟩ = some (.int .u64 s.parent) := bk3.cell 3
  clear bk2 hf2 hb02 ha2 bk3
  go_wp2_with fail
  have happ4 := happ.alloc (.cells #[.int .u64 s.hi, .int .u64 s.lo, .int .u64 s.id, .int .u64 s.parent] 22)
  have bq := Bk.new w3 22 #[.int .u64 s.hi, .int .u64 s.lo, .int .u64 s.id, .int .u64 s.parent]
  have hq2 : w2.heap.size ≤ w3.heap.size := happ.heap
  have hqa : ∀ a, A3 = some a → a.block < w3.heap.size := fun a ha => (happ.lo a ha).2
  obtain ⟨w4, hw4⟩ : ∃ w4, w3.alloc (.cells #[.int .u64 s.hi, .int .u64 s.lo, .int .u64 s.id, .int .u64 s.parent] 22) = w4 := ⟨_, rfl⟩
  rw [hw4] at happ4 bq ⊢
  obtain ⟨q, hq⟩ : ∃ q, w3.heap.size = q := ⟨_, rfl⟩
  rw [hq] at bq hq2 hqa ⊢
  have hfetch : ∀ j, j < 4 → ∃ x : Nat, [s.hi, s.lo, s.id, s.parent][j]? = some x ∧ x < 18446744073709551616 ∧ (#[.int .u64 s.hi, .int .u64 s.lo, .int .u64 s.id, .int .u64 s.parent] : Array Value)[j]? = some (.int .u64 (x : Nat)) := by
    intro j hj
    obtain ⟨u1, u2, u3, u4⟩ := hu
    match j, hj with
    | 0, _ => exact ⟨_, rfl, u1, rfl⟩
    | 1, _ => exact ⟨_, rfl, u2, rfl⟩
    | 2, _ => exact ⟨_, rfl, u3, rfl⟩
    | 3, _ => exact ⟨_, rfl, u4, rfl⟩
  have HFE := Lib.hid hfetch
  have HQA := Lib.hid hqa
  have HAP := Lib.hid happ4
  clear hfetch hqa hw4 hq happ k0 k1 k2 k3 happ4 hu
  go_loopw [7, 31] (fun v iv_ wr => ∃ (A' : Option Addr) (c' m j : Nat), j ≤ 4 ∧ v = .slice A' m c' ∧ iv_ = .int .i64 j ∧ m = n + j * 8 ∧ App w2.heap.size 5 1 w2 (.slice none 0 0) wr (.slice A' m c') m (bv (zs ++ ([s.hi, s.lo, s.id, s.parent].take j).flatMap ordEnc)) ∧
    Bk wr q 22 #[.int .u64 s.hi, .int .u64 s.lo, .int .u64 s.id, .int .u64 s.parent] ∧ (∀ a, A' = some a → a.block ≠ q)) (fun _ i _ => 4 - (intOf i).toNat)
  case atStart => exact ⟨A3, c3, n, 0, by omega, rfl, rfl, by omega, by simpa using HAP.out, bq, fun a ha => by have := HQA.out a ha; omega⟩
  case round =>
    obtain ⟨A', c', m, j, hj, rfl, rfl, hm, happ, bqr, hfar⟩ := hrel
    have HM := Lib.hid hm
    have hmb : m + 1000 ≤ 140737488355328 := by have := HN.out; omega
    clear hm bq
    by_cases hlt : j < 4
    · have hlt' : (j : Int) < 4 := by omega
      obtain ⟨x, hx1, hx2, hx3⟩ := HFE.out j hlt
      have hcell : wr.cell? ⟨q, j, none⟩ = some (.int .u64 (x : Nat)) := (bqr.cell j).trans hx3
      have HX := Lib.hid hx1
      clear hx1 hx3
      go_wp2_with fail
      refine (wireOrdered wr happ.own happ.heap hx2 (by omega)).mono ?_
      rintro e w5 ⟨A5, c5, rfl, happ5, -⟩
      have h5 := happ.trans happ5
      have e1 : zs ++ ([s.hi, s.lo, s.id, s.parent].take j).flatMap ordEnc ++ ordEnc x = zs ++ ([s.hi, s.lo, s.id, s.parent].take (j + 1)).flatMap ordEnc := by
        rw [take_snoc HX.out, List.flatMap_append, List.flatMap_cons, List.flatMap_nil, List.append_nil, List.append_assoc]
      rw [e1] at h5
      have b5 : Bk w5 q 22 #[.int .u64 s.hi, .int .u64 s.lo, .int .u64 s.id, .int .u64 s.parent] := bqr.grown happ5.grown (fun e => by
        cases A' with
        | none => cases e
        | some a => exact hfar a rfl (Option.some.inj e).symm)
      have f5 : ∀ a, A5 = some a → a.block ≠ q := fun a ha e => by
        subst ha
        rcases happ5.block with h | ⟨r, h1, h2⟩
        · cases A' with
          | none => cases h
          | some b => exact hfar b rfl ((Option.some.inj h).symm.trans e)
        · have := bqr.lt
          have : a.block = r := Option.some.inj h1
          omega
      have HB5 := Lib.hid b5
      have HF5 := Lib.hid f5
      have H5 := Lib.hid h5
      clear e1 happ5 b5 f5 hfar bqr happ h5
      go_wp2
      go_roundw
      case rel => exact ⟨A5, c5, m + 8, j + 1, by omega, rfl, by go_num, by have := HM.out; omega, H5.out, HB5.out, HF5.out⟩
      case measure => simp [intOf]; omega
    · have hlt' : decide ((j : Int) < 4) = false := by simp; omega
      obtain rfl : j = 4 := by omega
      clear hfar bqr HFE HQA HAP
      have e1 : [s.hi, s.lo, s.id, s.parent].take 4 = [s.hi, s.lo, s.id, s.parent] := rfl
      rw [e1] at happ
      obtain ⟨y0, hy0⟩ : ∃ y0, zs ++ [s.hi, s.lo, s.id, s.parent].flatMap ordEnc = y0 := ⟨_, rfl⟩
      rw [hy0] at happ
      have hm0 : m ≤ 1099511627776 + 32 := by have := HM.out; have := HN.out; omega
      have bkr := HB.out.below happ.below0 hgl
      have k4 : wr.cell? ⟨g, 4, none⟩ = some (.string s.service) := bkr.cell 4
      have k5 : wr.cell? ⟨g, 5, none⟩ = some (.string s.name) := bkr.cell 5
      have HY0 := Lib.hid hy0
      clear hy0 bkr HM hmb
      go_wp2_with fail
      refine (spPieces (k := 2) (ls := [s.service, s.name]) _ (happ.own.alloc (.cells #[.string s.service, .string s.name] 9)) (by have := happ.heap; simp; omega) (fun i t ht => ?_) rfl (by simp) ?_ ?_ (by omega)).mono ?_
      · have hb := (Bk.new wr 9 #[.string s.service, .string s.name]).cell i
        rw [hb]
        match i, ht with
        | 0, ht => cases ht; rfl
        | 1, ht => cases ht; rfl
      · intro e
        cases A' with
        | none => cases e
        | some a =>
          have := (happ.own.lt a.block rfl).2
          have : a.block = wr.heap.size := Option.some.inj e
          omega
      · intro t ht
        have := L1.out
        have := L2.out
        simp at ht
        rcases ht with rfl | rfl <;> omega
      rintro e w5 ⟨A5, c5, rfl, happ5, -⟩
      have h5 := (happ.alloc (.cells #[.string s.service, .string s.name] 9)).trans happ5
      have epp : [s.service, s.name].flatMap pie = pie s.service ++ pie s.name := by simp
      rw [epp] at h5 ⊢
      obtain ⟨m5, hm5⟩ : ∃ m5, m + (pie s.service ++ pie s.name).length = m5 := ⟨_, rfl⟩
      have hm5b : m5 ≤ 1099511627776 + 400 := by
        have h1 := pie_len s.service (by have := L1.out; omega)
        have h2 := pie_len s.name (by have := L2.out; omega)
        have := L1.out
        have := L2.out
        rw [← hm5, List.length_append]
        omega
      obtain ⟨y5, hy5⟩ : ∃ y5, y0 ++ (pie s.service ++ pie s.name) = y5 := ⟨_, rfl⟩
      rw [hm5, hy5] at h5
      rw [hm5]
      have HY5 := Lib.hid hy5
      clear hm5 hy5 happ5 happ epp k4 k5 hm0
      have bk5 := HB.out.below h5.below0 hgl
      have k6 : w5.cell? ⟨g, 6, none⟩ = some (.int .i64 s.kind) := bk5.cell 6
      clear bk5
      go_wp2_with (at_builtin; go_loud (refine wpList_appb _ rfl (.tmp 46) (.tmp 50) rfl w2.heap.size _ m5 y5 rfl (h5.own.alloc _) _ _ 1 1 [s.kind] rfl rfl (Rd.lit _ _ _) (by omega) (by have := h5.heap; simp; omega) ?_))
      intro A6 c6 w6 h6' hne6
      have h6 := (h5.alloc (.cells #[.int .u8 s.kind] 5)).trans h6'
      clear h5 h6' hne6 k6
      obtain ⟨y6, hy6⟩ : ∃ y6, y5 ++ [s.kind] = y6 := ⟨_, rfl⟩
      obtain ⟨m6, hm6⟩ : ∃ m6, m5 + 1 = m6 := ⟨_, rfl⟩
      rw [hy6, hm6] at h6
      rw [hm6]
      have hm6b : m6 ≤ 1099511627776 + 401 := by omega
      have HY6 := Lib.hid hy6
      clear hy6 hm6 hm5b
      have bk6 := HB.out.below h6.below0 hgl
      have k7 : w6.cell? ⟨g, 7, none⟩ = some (.int .i64 s.start) := bk6.cell 7
      have k8 : w6.cell? ⟨g, 8, none⟩ = some (.int .i64 s.length) := bk6.cell 8
      obtain ⟨r1, r2, r3, r4⟩ := HH.out
      obtain ⟨a1, ha1⟩ : ∃ a1 : Nat, s.start = a1 := ⟨s.start.toNat, by omega⟩
      obtain ⟨a2, ha2⟩ : ∃ a2 : Nat, s.length = a2 := ⟨s.length.toNat, by omega⟩
      rw [ha1] at k7
      rw [ha2] at k8
      have hl1 := numEnc_u64 (x := a1) (by omega)
      have hl2 := numEnc_u64 (x := a2) (by omega)
      have ha1b : a1 ≤ 4611686018427387903 := by omega
      have ha2b : a2 ≤ 4611686018427387903 := by omega
      have hwr1 : IntKind.u64.wrap (a1 : Int) = (a1 : Int) := IntWalk.u64_in _ ⟨by omega, by omega⟩
      have hwr2 : IntKind.u64.wrap (a2 : Int) = (a2 : Int) := IntWalk.u64_in _ ⟨by omega, by omega⟩
      have hle6 : w2.heap.size ≤ w6.drew.heap.size := h6.heap
      have hx1 : a1 < 18446744073709551616 := by omega
      have hx2 : a2 < 18446744073709551616 := by omega
      have hmb6 : m6 + 10 ≤ 140737488355328 := by omega
      have hmb7 : m6 + (numEnc a1).length + 10 ≤ 140737488355328 := by omega
      have HA1 := Lib.hid ha1
      have HA2 := Lib.hid ha2
      clear bk6 ha1 ha2 r1 r2 r3 r4
      go_wp2_with fail
      go_region_held3 (fun w' => w'.cell? ⟨g, 7, none⟩ = some (.int .i64 a1) ∧ w'.cell? ⟨g, 8, none⟩ = some (.int .i64 a2)) (go_keep)
        (first
          | (go_at_call_of 62 (Value.int .u64 (a1 : Nat))
             refine (wireNumber (base := w2.heap.size) (x := a1) (xs := y6) _ h6.drew.own hle6 hx1 hmb6).mono ?_
             rintro e w7 ⟨A7, c7, rfl, happ7, -⟩
             have h7 := (h6.drew).trans happ7
             have k7' : w7.cell? ⟨g, 7, none⟩ = some (.int .i64 a1) := ((HB.out.below h7.below0 hgl).cell 7).trans (by rw [← HA1.out]; rfl)
             have k8' : w7.cell? ⟨g, 8, none⟩ = some (.int .i64 a2) := ((HB.out.below h7.below0 hgl).cell 8).trans (by rw [← HA2.out]; rfl))
          | (go_at_call_of 62 (Value.int .u64 (a2 : Nat))
             refine (wireNumber (base := w2.heap.size) (x := a2) (xs := y6 ++ numEnc a1) _ h7.own h7.heap hx2 hmb7).mono ?_
             rintro e w8 ⟨A8, c8, rfl, happ8, -⟩
             have h8 := h7.trans happ8
             have k7b : w8.cell? ⟨g, 7, none⟩ = some (.int .i64 a1) := ((HB.out.below h8.below0 hgl).cell 7).trans (by rw [← HA1.out]; rfl)
             have k8b : w8.cell? ⟨g, 8, none⟩ = some (.int .i64 a2) := ((HB.out.below h8.below0 hgl).cell 8).trans (by rw [← HA2.out]; rfl))
          | fail)
      obtain ⟨y8, hy8⟩ : ∃ y8, y6 ++ numEnc a1 ++ numEnc a2 = y8 := ⟨_, rfl⟩
      obtain ⟨m8, hm8⟩ : ∃ m8, m6 + (numEnc a1).length + (numEnc a2).length = m8 := ⟨_, rfl⟩
      rw [hy8, hm8] at h8
      rw [hm8]
      have hm8b : m8 ≤ 1099511627776 + 421 := by omega
      have HY8 := Lib.hid hy8
      clear hy8 hm8 hm6b h6 h7 happ7 happ8 k7 k8 k7' k8' k7b k8b hl1 hl2 hmb6 hmb7 hle6 hwr1 hwr2 hx1 hx2 ha1b ha2b
      obtain ⟨fv, hfv⟩ : ∃ fv : Int, (if s.fails = true then 1 else 0) = fv := ⟨_, rfl⟩
      have hfv0 : 0 ≤ fv := by rw [← hfv]; split <;> omega
      have hfv1 : fv ≤ 1 := by rw [← hfv]; split <;> omega
      have hwru : IntKind.u8.wrap fv = fv := by rw [IntKind.wrap_u8]; omega
      have hT := fun W => spTruth W s.fails
      rw [hfv] at hT
      have HFV := Lib.hid hfv
      have bk8 := HB.out.below h8.below0 hgl
      have k9 : w8.cell? ⟨g, 9, none⟩ = some (.bool s.fails) := bk8.cell 9
      have k10 : w8.cell? ⟨g, 10, none⟩ = some (.slice At nt ct) := bk8.cell 10
      have hwr3 : IntKind.u64.wrap (nt : Int) = (nt : Int) := IntWalk.u64_in _ ⟨by omega, by omega⟩
      have hx3 : nt < 18446744073709551616 := by omega
      have hl3 := numEnc_u64 hx3
      have hmb8 : m8 + 1 ≤ 140737488355328 := by omega
      have hmb9 : m8 + 1 + 10 ≤ 140737488355328 := by omega
      have h8a := (h8.alloc (.cells #[.int .u8 fv] 5)).drew
      have hle8 : w2.heap.size ≤ (w8.alloc (.cells #[.int .u8 fv] 5)).drew.heap.size := h8a.heap
      clear bk8 hfv
      go_wp2_with fail
      go_region_held3 (fun w' => w'.cell? ⟨g, 9, none⟩ = some (.bool s.fails) ∧ w'.cell? ⟨g, 10, none⟩ = some (.slice At nt ct)) (go_keep)
        (first
          | (go_at_call 76
             refine (hT _).mono ?_
             rintro e w9 ⟨rfl, hw9⟩
             rw [hw9]
             clear hw9 w9)
          | (refine step_appb (by rfl) (.tmp 61) (.tmp 66) (by rfl) w2.heap.size (.slice A8 m8 c8) m8 y8 (by rfl) h8a.own _ _ 1 1 [fv] (by rfl) (by rfl) (Rd.lit w8 _ _) hmb8 hle8 ?_
             intro A9 c9 w9 happ9 _
             have h9 := h8a.trans happ9
             have k9b : w9.cell? ⟨g, 9, none⟩ = some (.bool s.fails) := (HB.out.below h9.below0 hgl).cell 9
             have k10b : w9.cell? ⟨g, 10, none⟩ = some (.slice At nt ct) := (HB.out.below h9.below0 hgl).cell 10)
          | (go_at_call 62
             refine (wireNumber (base := w2.heap.size) (x := nt) (xs := y8 ++ [fv]) _ h9.own h9.heap hx3 hmb9).mono ?_
             rintro e w10 ⟨A10, c10, rfl, happ10, -⟩
             have h10 := h9.trans happ10
             have k9c : w10.cell? ⟨g, 9, none⟩ = some (.bool s.fails) := (HB.out.below h10.below0 hgl).cell 9
             have k10c : w10.cell? ⟨g, 10, none⟩ = some (.slice At nt ct) := (HB.out.below h10.below0 hgl).cell 10)
          | fail)
      obtain ⟨y10, hy10⟩ : ∃ y10, y8 ++ [fv] ++ numEnc nt = y10 := ⟨_, rfl⟩
      obtain ⟨m10, hm10⟩ : ∃ m10, m8 + 1 + (numEnc nt).length = m10 := ⟨_, rfl⟩
      rw [hy10, hm10] at h10
      rw [hm10]
      have hm10b : m10 ≤ 1099511627776 + 432 := by omega
      have HY10 := Lib.hid hy10
      have HH10 := Lib.hid h10
      clear hy10 hm10 hm8b h8 h9 h8a happ9 happ10 k9 k10 k9b k9c k10b hl3 hmb8 hmb9 hle8 hwr3 hwru hx3 hT hfv0 hfv1 h10
      go_wp2_with fail
      go_loopw [7, 76] (fun v iv_ wr => ∃ (A' : Option Addr) (c' m j : Nat), j ≤ nt ∧ v = .slice A' m c' ∧ iv_ = .int .i64 j ∧ m ≤ m10 + j * 300 ∧ App w2.heap.size 5 1 w2 (.slice none 0 0) wr (.slice A' m c') m (bv (y10 ++ (s.tags.take j).flatMap tgEnc))) (fun _ i _ => nt - (intOf i).toNat)
      case atStart => exact ⟨A10, c10, m10, 0, by omega, rfl, rfl, by omega, by simpa using HH10.out⟩
      case round =>
        clear k10c
        obtain ⟨A', c', m, j, hj, rfl, rfl, hm, happ⟩ := hrel
        have hmb : m ≤ 1099511627776 + 6000 := by omega
        by_cases hlt : j < nt
        · have hlt' : (j : Int) < (nt : Int) := by omega
          obtain ⟨x, hx⟩ : ∃ x, s.tags[j]? = some x := ⟨_, List.getElem?_eq_getElem (by rw [HNT.out]; exact hlt)⟩
          have hsx := L4.out x (List.mem_of_getElem? hx)
          obtain ⟨b, o, e', hbb, c1, c2⟩ := RbT.get (Rd.below HF.out (happ.below0.mono (by omega))) hx
          cases e'
          have HX := Lib.hid hx
          clear hx
          have ha2 := (happ.alloc (.cells #[.string x.key, .string x.val] 97)).alloc (.cells #[.string x.key, .string x.val] 9)
          have hrow : (Value.slice A' m c').ownBlock ≠ some (wr.heap.size + 1) := fun e => by
            cases A' with
            | none => cases e
            | some a =>
              have h1 := (happ.own.lt a.block rfl).2
              have h2 : a.block = wr.heap.size + 1 := Option.some.inj e
              omega
          have bb : Bk ((wr.alloc (.cells #[.string x.key, .string x.val] 97)).alloc (.cells #[.string x.key, .string x.val] 9)) (wr.heap.size + 1) 9 #[.string x.key, .string x.val] := by
            have h := Bk.new (wr.alloc (.cells #[.string x.key, .string x.val] 97)) 9 #[.string x.key, .string x.val]
            simpa using h
          have hcells : ∀ (i : Nat) (t : ByteArray), [x.key, x.val][i]? = some t → ((wr.alloc (.cells #[.string x.key, .string x.val] 97)).alloc (.cells #[.string x.key, .string x.val] 9)).cell? ⟨wr.heap.size + 1, i, none⟩ = some (.string t) := fun i t ht => by
            rw [bb.cell i]
            match i, ht with
            | 0, ht => cases ht; rfl
            | 1, ht => cases ht; rfl
          have hsz : ∀ t ∈ [x.key, x.val], t.size ≤ 1048576 := fun t ht => by
            simp at ht
            rcases ht with rfl | rfl <;> omega
          have hp := spPieces (k := 2) (c1 := 2) (ls := [x.key, x.val]) _ ha2.own ha2.heap hcells rfl bb.lt hrow hsz (by omega)
          have HP := Lib.hid hp
          have HA2 := Lib.hid ha2
          clear hp hrow bb hcells hsz ha2
          go_wp2_with fail
          refine HP.out.mono ?_
          rintro e w12 ⟨A12, c12, rfl, happ12, -⟩
          have h12 := HA2.out.trans happ12
          have e1 : [x.key, x.val].flatMap pie = tgEnc x := by simp [tgEnc]
          have e2 : y10 ++ (s.tags.take j).flatMap tgEnc ++ tgEnc x = y10 ++ (s.tags.take (j + 1)).flatMap tgEnc := by
            rw [take_snoc HX.out, List.flatMap_append, List.flatMap_cons, List.flatMap_nil, List.append_nil, List.append_assoc]
          rw [e1, e2] at h12
          rw [e1]
          have hl12 : (tgEnc x).length ≤ 300 := by
            have h1 := pie_len x.key (by omega)
            have h2 := pie_len x.val (by omega)
            rw [tgEnc, List.length_append]
            omega
          obtain ⟨m12, hm12⟩ : ∃ m12, m + (tgEnc x).length = m12 := ⟨_, rfl⟩
          rw [hm12] at h12 ⊢
          have hm12b : m12 ≤ m10 + (j + 1) * 300 := by omega
          clear e1 e2 hl12 hm12 happ12 c1 c2
          go_wp2
          go_roundw
          case rel => exact ⟨A12, c12, m12, j + 1, by omega, rfl, by go_num, hm12b, h12⟩
          case measure => simp [intOf]; omega
        · have hlt' : decide ((j : Int) < (nt : Int)) = false := by simp; omega
          obtain rfl : j = nt := by omega
          have e1 : s.tags.take j = s.tags := List.take_of_length_le (by rw [HNT.out]; omega)
          rw [e1] at happ
          have hy : y10 ++ s.tags.flatMap tgEnc = zs ++ spEnc s := by
            have hk : s.kind % 256 = s.kind := by omega
            rw [← HY10.out, ← HY8.out, ← HY6.out, ← HY5.out, ← HY0.out, spEnc, spHead, hk, ← HFV.out, HNT.out, HA1.out, HA2.out]
            simp
          rw [hy] at happ
          have hml : m = (zs ++ spEnc s).length := by
            have := own_length happ.own
            rw [bv_length] at this
            exact this.symm
          have HML := Lib.hid hml
          have HAPP := Lib.hid happ
          clear hy hml e1
          go_wp2
          go_ret2
          have happ := HAPP.out
          have hml := HML.out
          refine ⟨HBW.out.trans (happ.below0.mono (by omega)), .inr ⟨HK.out, A', c', by rw [← hml]; rfl, by rw [← hml]; exact own_downK happ.own (by omega), by rw [← hml]; exact happ.cap⟩⟩
theorem spAppend {A0 At : Option Addr} {c0 ct B n nt : Nat} {zs : List Int} (s : Sp) (w : World) (ha : Rb w B A0 zs) (hB : B ≤ w.heap.size) (hz : zs.length ≤ 1099511627776) (hc : A0 = none → zs = [] ∧ c0 = 0) (hn : zs.length = n)
    (hf : RbT w B At s.tags) (hnt : s.tags.length = nt) (hnl : nt ≤ 9223372036854775807) (hu : s.U64) :
    Calls Try.prog 53 #[.slice A0 n c0, spV s At nt ct] w (AppPost w zs s) :=
  (spAppend2 s w ha hB hz hc hn hf hnt hnl hu).mono fun _ _ ⟨hb, h⟩ => ⟨hb, h.imp id fun ⟨hk, A', c', he, ho, hcap⟩ => ⟨hk, A', c', he, Rd.of_own ho, hcap, fun a ha => by subst ha; exact (ho.lt a.block rfl).1⟩⟩
end Go.Proofs.Ytlamebbolioljaa

/- Adjusted spans: what they are, as they lie; schema.Span. -/
namespace Go.Proofs.Ytlamebbolioljaa
open Go.RowKit
theorem loadSp_shut (a : Addr) : loadVar 43 a = loadK 43 a := rfl
attribute [local go_sem ↓] loadSp_shut

structure Ad where
  s : Sp
  up : Nat
  shift : Int
  flag : Int
abbrev adC (a : Ad) (A : Option Addr) (n c : Nat) : Array Value := #[.int .u64 a.s.hi, .int .u64 a.s.lo, .int .u64 a.s.id, .int .u64 a.s.parent, .string a.s.service, .string a.s.name, .int .i64 a.s.kind, .int .i64 a.s.start, .int .i64 a.s.length, .bool a.s.fails, .slice A n c, .int .u64 a.up, .int .i64 a.shift, .int .i64 a.flag]
abbrev adV (a : Ad) (A : Option Addr) (n c : Nat) : Value := .agg (adC a A n c)
/-- A shift, as it is put. -/
def shU (x : Int) : Nat := (x + 9223372036854775808).toNat
theorem shU_wrap {x : Int} (h0 : -9223372036854775808 ≤ x) (h1 : x ≤ 9223372036854775807) : IntKind.u64.wrap (IntKind.u64.wrap x + 9223372036854775808) = (shU x : Int) := by
  rw [IntKind.wrap_u64, IntKind.wrap_u64]
  unfold shU
  omega
theorem shU_lt {x : Int} (h1 : x ≤ 9223372036854775807) : shU x < 18446744073709551616 := by unfold shU; omega
def adEnc (a : Ad) : List Int := spEnc a.s ++ itsEnc [.inl a.up, .inl (shU a.shift)] ++ [a.flag % 256]
def adChk (a : Ad) : Nat := if spChk a.s ≠ 0 then spChk a.s else if a.flag < 0 ∨ 2 < a.flag then 2 else 0
def adOut (a : Ad) : List Int × Nat := if adChk a = 0 then (adEnc a, 0) else ([], adChk a)
def Ad.Ok (a : Ad) : Prop := a.s.U64 ∧ a.up < 18446744073709551616 ∧ -9223372036854775808 ≤ a.shift ∧ a.shift ≤ 9223372036854775807
theorem run_loadVar_cellsK {P : Program} (w : World) (ty : TypeId) (d : TypeDesc) (a : Addr) (xs : List Value) (hu : P.underlying ty = some d) (hd : (match d with | .struct _ | .array _ _ => true | _ => false) = true) (hi : (P.info? ty).map (·.size) = some xs.length)
    (hc : ∀ j v, xs[j]? = some v → w.cell? (a.add j) = some v) : (loadVar ty a).run P w = .ok (.agg xs.toArray) w := by
  have hl := run_loadCells_list (P := P) w a xs hc
  cases hq : P.info? ty with
  | none => simp [hq] at hi
  | some i =>
    have hs : i.size = xs.length := by simpa [hq] using hi
    have hagg : (isAgg ty).run P w = .ok true w := by
      unfold isAgg
      rw [Sem.run_bind, run_underlying hu w]
      cases d <;> simp_all
    simp [loadVar, Sem.run_bind, hagg, sizeOf, typeInfo, hq, hs, hl]
set_option maxRecDepth 100000 in
theorem loadK_adSp {w : World} {g n c : Nat} {a : Ad} {A : Option Addr} (h : Bk w g 45 (adC a A n c)) : (loadK 43 ⟨g, 0, none⟩).run Try.prog w = .ok (spV a.s A n c) w :=
  run_loadVar_cellsK w _ _ ⟨g, 0, none⟩ (spC a.s A n c).toList Try.underlying43 rfl (by rfl) (fun j v hv => by
    have hj : j < 11 := (List.getElem?_eq_some_iff.1 hv).1
    rw [Addr.add_lit, Nat.zero_add, h.cell j, ← hv]
    have h14 : ∀ j, j < 11 → (adC a A n c)[j]? = (spC a.s A n c).toList[j]? := by
      intro j hj
      have : j = 0 ∨ j = 1 ∨ j = 2 ∨ j = 3 ∨ j = 4 ∨ j = 5 ∨ j = 6 ∨ j = 7 ∨ j = 8 ∨ j = 9 ∨ j = 10 := by omega
      rcases this with rfl | rfl | rfl | rfl | rfl | rfl | rfl | rfl | rfl | rfl | rfl <;> rfl
    exact h14 j hj)
theorem step_appK {w : World} {ops : Array Oper} {o : Oper} {a : Act} {K : Act → World → Prop} {Q : Exit → Act → World → Prop} {E : Prop} (hgd : o.guard = none) (s x : Operand)
    (ho : o.op = .call { callee := .builtin .append, args := #[s, x], argTypes := #[27, 27] })
    (base : Nat) (v : Value) (n : Nat) (xs : List Int) (hs : a.eval s = v) (hown : w.ownsRow base 5 1 v n (bv xs))
    (B : Nat) (A : Option Addr) (m c : Nat) (news : List Int) (hx : a.eval x = .slice A m c) (hl : news.length = m) (hr : Rb w B A news)
    (hbytes : n + m ≤ 140737488355328) (hbase : base ≤ w.heap.size)
    (h : ∀ A' c' w', App base 5 1 w v w' (.slice A' (n + m) c') (n + m) (bv (xs ++ news)) → (A' = none → v = .slice none 0 0 ∧ m = 0) → K (a.put o.dst (.slice A' (n + m) c')) w') :
    if Region.wanted o (yielded ops a.tmps) = true then Oper.wp Try.prog o a w K Q else E := by
  have hw : Region.wanted o (yielded ops a.tmps) = true := by simp [Region.wanted, hgd]
  rw [if_pos hw]
  obtain ⟨i0, hi0, hz0, hz1, hz2⟩ := info_parts u8info
  refine wp_app w s x _ ho base 5 i0 _ 1 1 Try.underlying27 hi0 hz0 hz1 hz2 rfl (by omega) v n (bv xs) hs hown B A m c (bv news) hx (by rw [bv_length]; omega) hr (bv_one news) (by simp only [maxLen]; omega) (by omega) hbase ?_
  intro A' c' w' h1 h2 h3 h4
  rw [← bv_append] at h1
  exact h A' c' w' ((App.refl hown).step h1 h2 h3) h4
theorem Rd.block4 {w w' : World} {B b : Nat} {xs : List Value} (h : Rd w B (some ⟨b, 0, none⟩) xs) {row : Option Nat} (hg : w.grownBy w' row) (hB : B ≤ w.heap.size) (hr : row ≠ some b) : Rd w' B (some ⟨b, 0, none⟩) xs := fun hn => by
  obtain ⟨b', o, e, hb, hc⟩ := h hn
  cases e
  exact ⟨b, 0, rfl, hb, fun j u hu => (World.cell?_of_block (a := ⟨b, 0 + j, none⟩) (hg.block b (by omega) (fun e => hr e.symm))).trans (hc j u hu)⟩
theorem pie_small {s : ByteArray} (h : s.size ≤ 128) : (pie s).length ≤ 138 := by have := pie_len s (by omega); omega
theorem spEnc_small {s : Sp} (hc : spChk s = 0) : (spEnc s).length ≤ 100000 := by
  unfold spChk at hc
  by_cases h1 : longB s = true
  · rw [if_pos h1] at hc; omega
  rw [if_neg h1] at hc
  cases h2 : (headB s && tagsOk s.tags s.tags.length) with
  | false => rw [h2] at hc; simp at hc
  | true =>
  rw [Bool.and_eq_true] at h2
  have hh := h2.1
  unfold headB at hh
  simp only [Bool.and_eq_true, decide_eq_true_eq] at hh
  obtain ⟨⟨⟨⟨-, b1⟩, b2⟩, b3⟩, b4⟩ := hh
  simp only [longB, Bool.or_eq_true, decide_eq_true_eq, not_or, Bool.not_eq_true] at h1
  obtain ⟨⟨⟨c1, c2⟩, c3⟩, c4⟩ := h1
  have d1 := pie_small (s := s.service) (by omega)
  have d2 := pie_small (s := s.name) (by omega)
  have d3 := numEnc_u64 (x := s.start.toNat) (by omega)
  have d4 := numEnc_u64 (x := s.length.toNat) (by omega)
  have d5 := numEnc_u64 (x := s.tags.length) (by omega)
  have d6 : ∀ l : List Tg, (∀ x ∈ l, tgLong x = false) → (l.flatMap tgEnc).length ≤ l.length * 276 := by
    intro l
    induction l with
    | nil => intro _; simp
    | cons x l ih =>
      intro h
      have h1 := ih fun y hy => h y (by simp [hy])
      have h2 := h x (by simp)
      simp only [tgLong, Bool.or_eq_false_iff, decide_eq_false_iff_not] at h2
      have h3 := pie_small (s := x.key) (by omega)
      have h4 := pie_small (s := x.val) (by omega)
      simp only [List.flatMap_cons, List.length_append, tgEnc, List.length_cons]
      omega
  have d7 := d6 s.tags (fun x hx => by
    have := List.any_eq_false.1 c4 x hx
    simpa using this)
  have d8 : ([s.hi, s.lo, s.id, s.parent].flatMap ordEnc).length = 32 := by simp [ordEnc_len]
  simp only [spEnc, spHead, List.length_append, List.length_cons, List.length_nil]
  omega
set_option maxRecDepth 100000 in
set_option maxHeartbeats 4000000 in
theorem scSpan {At : Option Addr} {ct B nt : Nat} (a : Ad) (w : World) (hf : RbT w B At a.s.tags) (hB : B ≤ w.heap.size) (hnt : a.s.tags.length = nt) (hnl : nt ≤ 9223372036854775807) (hu : a.Ok) :
    Calls Try.prog 24 #[adV a At nt ct] w (KeyMade w (adOut a)) := by
  have hb0 : Below w.heap.size w (w.alloc (.cells (adC a At nt ct) 45)) := (Below.refl _ w).alloc (Nat.le_refl _) _
  have bk := Bk.new w 45 (adC a At nt ct)
  have hf1 := Rd.alloc hf hB (.cells (adC a At nt ct) 45)
  obtain ⟨w1, hw1⟩ : ∃ w1, w.alloc (.cells (adC a At nt ct) 45) = w1 := ⟨_, rfl⟩
  rw [hw1] at hb0 bk hf1
  obtain ⟨g, hg⟩ : ∃ g, w.heap.size = g := ⟨_, rfl⟩
  rw [hg] at bk
  have HW := Lib.hid hw1
  have HG := Lib.hid hg
  have HB0 := Lib.hid hb0
  have la := loadK_adSp bk
  have hB1 : B ≤ w1.heap.size := Nat.le_trans hB hb0.size
  have ca := spAppend2 (A0 := none) (c0 := 0) (B := B) (n := 0) (zs := []) (ct := ct) a.s w1 Rd.nil hB1 (by simp) (fun _ => ⟨rfl, rfl⟩) rfl hf1 hnt hnl hu.1
  obtain ⟨r, hr⟩ : ∃ r, adOut a = r := ⟨_, rfl⟩
  rw [hr]
  obtain ⟨q, hq⟩ : ∃ q, spChk a.s = q := ⟨_, rfl⟩
  unfold AppPost2 at ca
  rw [hq] at ca
  simp only [List.nil_append] at ca
  have CA := Lib.hid ca
  clear hw1 hg hb0 hf1 ca hf hB hB1
  by_cases hq0 : q = 0
  case neg =>
    have HR : Hid (r = ([], q)) := by
      rw [← hr, adOut, adChk, hq, if_pos hq0, if_neg hq0]
      exact Lib.hid rfl
    have d : ((q : Int) != 0) = true := by rw [bne_iff_ne]; omega
    have HQ := Lib.hid hq0
    clear hr hq hq0
    go_enter Try.func24, Try.ntmps24
    go_upto_region 1 with fail
    rw [HW.out, HG.out]
    go_wp2_with fail
    refine CA.out.mono ?_
    rintro e w2 ⟨hb2, h2⟩
    rcases h2 with ⟨-, rfl⟩ | ⟨h, -⟩
    · go_wp2
      go_ret2
      exact .no HR.out rfl (HB0.out.trans (hb2.mono HB0.out.size))
    · exact absurd h HQ.out
  case pos =>
    subst hq0
    have HQ := Lib.hid hq
    go_enter Try.func24, Try.ntmps24
    go_upto_region 1 with fail
    rw [HW.out, HG.out]
    go_wp2_with fail
    refine CA.out.mono ?_
    rintro e w2 ⟨hb2, h2⟩
    rcases h2 with ⟨h, -⟩ | ⟨-, A2, c2, rfl, ho2, hc2⟩
    · exact absurd rfl h
    have bk2 := bk.bS hb2
    have hbw := HB0.out.trans (hb2.mono HB0.out.size)
    obtain ⟨e0, he0⟩ : ∃ e0, spEnc a.s = e0 := ⟨_, rfl⟩
    rw [he0] at ho2 hc2 ⊢
    have k13 : w2.cell? ⟨g, 13, none⟩ = some (.int .i64 a.flag) := bk2.cell 13
    have hcs : (a.flag < 0 ∧ r = ([], 2)) ∨ (0 ≤ a.flag ∧ 2 < a.flag ∧ r = ([], 2)) ∨ (0 ≤ a.flag ∧ a.flag ≤ 2 ∧ r = (adEnc a, 0)) := by
      have h0 : ¬ (0 : Nat) ≠ 0 := by simp
      by_cases h1 : a.flag < 0
      · have hc : adChk a = 2 := by rw [adChk, hq, if_neg h0, if_pos (Or.inl h1)]
        exact .inl ⟨h1, by rw [← hr, adOut, hc, if_neg (by omega)]⟩
      · by_cases h2 : 2 < a.flag
        · have hc : adChk a = 2 := by rw [adChk, hq, if_neg h0, if_pos (Or.inr h2)]
          exact .inr (.inl ⟨by omega, h2, by rw [← hr, adOut, hc, if_neg (by omega)]⟩)
        · have hc : adChk a = 0 := by rw [adChk, hq, if_neg h0, if_neg (by omega)]
          exact .inr (.inr ⟨by omega, by omega, by rw [← hr, adOut, if_pos hc]⟩)
    have HE0 := Lib.hid he0
    have HGL := Lib.hid bk.lt
    have HW12 := Lib.hid hb2.size
    clear la hb2 hr hq CA bk he0
    rcases hcs with ⟨h1, he⟩ | ⟨h1, h2, he⟩ | ⟨h1, h2, he⟩
    · have HR := Lib.hid he
      clear he
      go_wp2
      go_ret2
      exact .no HR.out rfl hbw
    · have HR := Lib.hid he
      clear he
      go_wp2
      go_ret2
      exact .no HR.out rfl hbw
    · have HR := Lib.hid he
      clear he
      have hgl : g < w2.heap.size := bk2.lt
      have cells : ∀ W : World, Bk W g 45 (adC a At nt ct) → W.cell? ⟨g, 11, none⟩ = some (.int .u64 a.up) ∧ W.cell? ⟨g, 12, none⟩ = some (.int .i64 a.shift) ∧ W.cell? ⟨g, 13, none⟩ = some (.int .i64 a.flag) := fun W h => ⟨h.cell 11, h.cell 12, h.cell 13⟩
      obtain ⟨p0, p1, p2⟩ := cells w2.drew bk2.drew
      obtain ⟨p3, p4, p5⟩ := cells _ (bk2.alloc (.cells #[.iface 22 (.int .u64 a.up), .iface 22 (.int .u64 (IntKind.u64.wrap (IntKind.u64.wrap a.shift + 9223372036854775808)))] 20)).drew
      obtain ⟨p6, p7, p8⟩ := cells _ (bk2.alloc (.cells #[.int .u8 (a.flag)] 5)).drew
      obtain ⟨p9, p10, p11⟩ := cells _ ((bk2.alloc (.cells #[.iface 22 (.int .u64 a.up), .iface 22 (.int .u64 (IntKind.u64.wrap (IntKind.u64.wrap a.shift + 9223372036854775808)))] 20)).alloc (.cells #[.int .u8 (a.flag)] 5)).drew
      obtain ⟨p12, p13, p14⟩ := cells _ ((bk2.alloc (.cells #[.int .u8 (a.flag)] 5)).alloc (.cells #[.iface 22 (.int .u64 a.up), .iface 22 (.int .u64 (IntKind.u64.wrap (IntKind.u64.wrap a.shift + 9223372036854775808)))] 20)).drew
      obtain ⟨y, hy⟩ : ∃ y, shU a.shift = y := ⟨_, rfl⟩
      have hsh := shU_wrap hu.2.2.1 hu.2.2.2
      rw [hy] at hsh
      have hylt : y < 18446744073709551616 := by rw [← hy]; exact shU_lt hu.2.2.2
      have hl2 : Rd (w2.alloc (.cells #[.iface 22 (.int .u64 a.up), .iface 22 (.int .u64 (IntKind.u64.wrap (IntKind.u64.wrap a.shift + 9223372036854775808)))] 20)) (w2.heap.size + 1) (some ⟨w2.heap.size, 0, none⟩) (ifs [.inl a.up, .inl y]) := by
        show Rd _ _ _ [.iface 22 (.int .u64 a.up), .iface 22 (.int .u64 (y : Int))]
        rw [← hsh]
        exact Rd.lit w2 #[.iface 22 (.int .u64 a.up), .iface 22 (.int .u64 (IntKind.u64.wrap (IntKind.u64.wrap a.shift + 9223372036854775808)))] _
      have hl12 : Rd ((w2.alloc (.cells #[.int .u8 (a.flag)] 5)).alloc (.cells #[.iface 22 (.int .u64 a.up), .iface 22 (.int .u64 (IntKind.u64.wrap (IntKind.u64.wrap a.shift + 9223372036854775808)))] 20)) (w2.heap.size + 1 + 1) (some ⟨w2.heap.size + 1, 0, none⟩) (ifs [.inl a.up, .inl y]) := by
        show Rd _ _ _ [.iface 22 (.int .u64 a.up), .iface 22 (.int .u64 (y : Int))]
        rw [← hsh]
        exact Rd.lit' (w := w2.alloc (.cells #[.int .u8 (a.flag)] 5)) (cs := #[.iface 22 (.int .u64 a.up), .iface 22 (.int .u64 (IntKind.u64.wrap (IntKind.u64.wrap a.shift + 9223372036854775808)))]) (by simp)
      have hfine : ∀ x ∈ ([.inl a.up, .inl y] : List It), itFine x := by
        intro x hx
        simp at hx
        rcases hx with rfl | rfl
        · exact hu.2.1
        · exact hylt
      have hsep : ∀ k, Sep A2 (some ⟨w2.heap.size + k, 0, none⟩) := fun k x b hx hb e => by
        subst hx
        cases hb
        have h1 := (ho2.lt x.block rfl).2
        have h2 : x.block = w2.heap.size + k := e
        omega
      have hg1 : g < w1.heap.size := HGL.out
      have hw12 : w1.heap.size ≤ w2.heap.size := HW12.out
      have hrowg : (Value.slice A2 e0.length c2).ownBlock ≠ some g := fun e => by have h := (ho2.lt g e).1; omega
      have hrown : ∀ k, (Value.slice A2 e0.length c2).ownBlock ≠ some (w2.heap.size + k) := fun k e => by have h := (ho2.lt _ e).2; omega
      have hel : e0.length ≤ 1099511620000 := by rw [← HE0.out]; have := spEnc_small HQ.out; omega
      have cp1 := scPack (l := [.inl a.up, .inl y]) (k := 2) (c1 := 2) (w2.alloc (.cells #[.iface 22 (.int .u64 a.up), .iface 22 (.int .u64 (IntKind.u64.wrap (IntKind.u64.wrap a.shift + 9223372036854775808)))] 20)).drew (show (w2.alloc (.cells #[.iface 22 (.int .u64 a.up), .iface 22 (.int .u64 (IntKind.u64.wrap (IntKind.u64.wrap a.shift + 9223372036854775808)))] 20)).drew.ownsRow w1.heap.size 5 1 (.slice A2 e0.length c2) e0.length (bv e0) from ho2.alloc _) (show w1.heap.size ≤ (w2.alloc (.cells #[.iface 22 (.int .u64 a.up), .iface 22 (.int .u64 (IntKind.u64.wrap (IntKind.u64.wrap a.shift + 9223372036854775808)))] 20)).heap.size by first | (simp; done) | (simp; omega)) hl2.drew (show w2.heap.size + 1 ≤ (w2.alloc (.cells #[.iface 22 (.int .u64 a.up), .iface 22 (.int .u64 (IntKind.u64.wrap (IntKind.u64.wrap a.shift + 9223372036854775808)))] 20)).heap.size by simp) (hsep 0) hfine rfl (by omega) hel
      have cp2 := scPack (l := [.inl a.up, .inl y]) (k := 2) (c1 := 2) ((w2.alloc (.cells #[.iface 22 (.int .u64 a.up), .iface 22 (.int .u64 (IntKind.u64.wrap (IntKind.u64.wrap a.shift + 9223372036854775808)))] 20)).alloc (.cells #[.int .u8 (a.flag)] 5)).drew (show ((w2.alloc (.cells #[.iface 22 (.int .u64 a.up), .iface 22 (.int .u64 (IntKind.u64.wrap (IntKind.u64.wrap a.shift + 9223372036854775808)))] 20)).alloc (.cells #[.int .u8 (a.flag)] 5)).drew.ownsRow w1.heap.size 5 1 (.slice A2 e0.length c2) e0.length (bv e0) from (ho2.alloc _).alloc _) (show w1.heap.size ≤ ((w2.alloc (.cells #[.iface 22 (.int .u64 a.up), .iface 22 (.int .u64 (IntKind.u64.wrap (IntKind.u64.wrap a.shift + 9223372036854775808)))] 20)).alloc (.cells #[.int .u8 (a.flag)] 5)).heap.size by first | (simp; done) | (simp; omega)) (hl2.alloc (by first | (simp; done) | (simp; omega)) _).drew (show w2.heap.size + 1 ≤ ((w2.alloc (.cells #[.iface 22 (.int .u64 a.up), .iface 22 (.int .u64 (IntKind.u64.wrap (IntKind.u64.wrap a.shift + 9223372036854775808)))] 20)).alloc (.cells #[.int .u8 (a.flag)] 5)).heap.size by first | (simp; done) | (simp; omega)) (hsep 0) hfine rfl (by omega) hel
      have cp3 := scPack (l := [.inl a.up, .inl y]) (k := 2) (c1 := 2) ((w2.alloc (.cells #[.int .u8 (a.flag)] 5)).alloc (.cells #[.iface 22 (.int .u64 a.up), .iface 22 (.int .u64 (IntKind.u64.wrap (IntKind.u64.wrap a.shift + 9223372036854775808)))] 20)).drew (show ((w2.alloc (.cells #[.int .u8 (a.flag)] 5)).alloc (.cells #[.iface 22 (.int .u64 a.up), .iface 22 (.int .u64 (IntKind.u64.wrap (IntKind.u64.wrap a.shift + 9223372036854775808)))] 20)).drew.ownsRow w1.heap.size 5 1 (.slice A2 e0.length c2) e0.length (bv e0) from (ho2.alloc _).alloc _) (show w1.heap.size ≤ ((w2.alloc (.cells #[.int .u8 (a.flag)] 5)).alloc (.cells #[.iface 22 (.int .u64 a.up), .iface 22 (.int .u64 (IntKind.u64.wrap (IntKind.u64.wrap a.shift + 9223372036854775808)))] 20)).heap.size by first | (simp; done) | (simp; omega)) hl12.drew (show w2.heap.size + 1 + 1 ≤ ((w2.alloc (.cells #[.int .u8 (a.flag)] 5)).alloc (.cells #[.iface 22 (.int .u64 a.up), .iface 22 (.int .u64 (IntKind.u64.wrap (IntKind.u64.wrap a.shift + 9223372036854775808)))] 20)).heap.size by simp) (hsep 1) hfine rfl (by omega) hel
      have hz4l : (e0 ++ itsEnc [.inl a.up, .inl y]).length ≤ 1099511620016 := by
        rw [List.length_append]
        have : (itsEnc [.inl a.up, .inl y]).length = 16 := by simp [itsEnc, itEnc, ordEnc_len]
        omega
      have HADE : Hid (adEnc a = e0 ++ itsEnc [.inl a.up, .inl y] ++ [a.flag]) := by rw [adEnc, HE0.out, hy, show a.flag % 256 = a.flag from by omega]; exact Lib.hid rfl
      obtain ⟨z4, hz4⟩ : ∃ z4, e0 ++ itsEnc [.inl a.up, .inl y] = z4 := ⟨_, rfl⟩
      rw [hz4] at cp1 cp2 cp3 hz4l
      have HAD : Hid (adEnc a = z4 ++ [a.flag]) := by rw [HADE.out, hz4]; exact Lib.hid rfl
      have CP1 := Lib.hid cp1
      have CP2 := Lib.hid cp2
      have CP3 := Lib.hid cp3
      have hr21 : Rb ((w2.alloc (.cells #[.iface 22 (.int .u64 a.up), .iface 22 (.int .u64 (IntKind.u64.wrap (IntKind.u64.wrap a.shift + 9223372036854775808)))] 20)).alloc (.cells #[.int .u8 (a.flag)] 5)) (w2.heap.size + 1 + 1) (some ⟨w2.heap.size + 1, 0, none⟩) [a.flag] := Rd.lit' (w := w2.alloc (.cells #[.iface 22 (.int .u64 a.up), .iface 22 (.int .u64 (IntKind.u64.wrap (IntKind.u64.wrap a.shift + 9223372036854775808)))] 20)) (cs := #[.int .u8 (a.flag)]) (by first | (simp; done) | (simp; omega))
      have hr12 : Rb ((w2.alloc (.cells #[.int .u8 (a.flag)] 5)).alloc (.cells #[.iface 22 (.int .u64 a.up), .iface 22 (.int .u64 (IntKind.u64.wrap (IntKind.u64.wrap a.shift + 9223372036854775808)))] 20)) (w2.heap.size + 1) (some ⟨w2.heap.size, 0, none⟩) [a.flag] := (Rd.lit w2 #[.int .u8 (a.flag)] 5).alloc (by first | (simp; done) | (simp; omega)) (.cells #[.iface 22 (.int .u64 a.up), .iface 22 (.int .u64 (IntKind.u64.wrap (IntKind.u64.wrap a.shift + 9223372036854775808)))] 20)
      have HR21 := Lib.hid hr21
      have HR12 := Lib.hid hr12
      have HBW := Lib.hid hbw
      have HO2 := Lib.hid ho2
      have HBK := Lib.hid bk2
      clear cells hy hsh hylt hl2 hl12 hfine hsep cp1 cp2 cp3 hz4 HADE hr21 hr12 hbw ho2 bk2 hel
      have hwru : IntKind.u8.wrap a.flag = a.flag := by rw [IntKind.wrap_u8]; omega
      go_upto_region 6 with fail
      go_region_held3 (fun w' => w'.cell? ⟨g, 11, none⟩ = some (.int .u64 a.up) ∧ w'.cell? ⟨g, 12, none⟩ = some (.int .i64 a.shift) ∧ w'.cell? ⟨g, 13, none⟩ = some (.int .i64 a.flag)) (go_keep)
        (first
          | (go_at_call 34
             first
             | ((with_reducible refine CP1.out.mono ?_)
                rintro e w4 ⟨A4, c4, rfl, h4, -⟩
                have bk4 := ((HBK.out.alloc (.cells #[.iface 22 (.int .u64 a.up), .iface 22 (.int .u64 (IntKind.u64.wrap (IntKind.u64.wrap a.shift + 9223372036854775808)))] 20)).drew).grown h4.grown (Ne.symm hrowg)
                have hg4 : (w2.alloc (.cells #[.iface 22 (.int .u64 a.up), .iface 22 (.int .u64 (IntKind.u64.wrap (IntKind.u64.wrap a.shift + 9223372036854775808)))] 20)).grownBy w4 (Value.slice A2 e0.length c2).ownBlock := ⟨h4.grown.os, h4.grown.tape, h4.grown.output, h4.grown.size, h4.grown.block⟩
                have hb4 : Below w1.heap.size w2 w4 := (((Below.refl _ w2).alloc hw12 (.cells #[.iface 22 (.int .u64 a.up), .iface 22 (.int .u64 (IntKind.u64.wrap (IntKind.u64.wrap a.shift + 9223372036854775808)))] 20)).trans (grown_below hg4 (show w1.heap.size ≤ (w2.alloc (.cells #[.iface 22 (.int .u64 a.up), .iface 22 (.int .u64 (IntKind.u64.wrap (IntKind.u64.wrap a.shift + 9223372036854775808)))] 20)).heap.size by first | (simp; done) | (simp; omega)) (fun b hb => (HO2.out.lt b hb).1)))
                obtain ⟨s0, s1, s2⟩ : w4.cell? ⟨g, 11, none⟩ = some (.int .u64 a.up) ∧ w4.cell? ⟨g, 12, none⟩ = some (.int .i64 a.shift) ∧ w4.cell? ⟨g, 13, none⟩ = some (.int .i64 a.flag) := ⟨bk4.cell 11, bk4.cell 12, bk4.cell 13⟩
                obtain ⟨s3, s4, s5⟩ : (w4.alloc (.cells #[.int .u8 (a.flag)] 5)).cell? ⟨g, 11, none⟩ = some (.int .u64 a.up) ∧ (w4.alloc (.cells #[.int .u8 (a.flag)] 5)).cell? ⟨g, 12, none⟩ = some (.int .i64 a.shift) ∧ (w4.alloc (.cells #[.int .u8 (a.flag)] 5)).cell? ⟨g, 13, none⟩ = some (.int .i64 a.flag) := ⟨(bk4.alloc (.cells #[.int .u8 (a.flag)] 5)).cell 11, (bk4.alloc (.cells #[.int .u8 (a.flag)] 5)).cell 12, (bk4.alloc (.cells #[.int .u8 (a.flag)] 5)).cell 13⟩)
             | ((with_reducible refine CP2.out.mono ?_)
                rintro e w4 ⟨A4, c4, rfl, h4, -⟩
                have bk4 := (((HBK.out.alloc (.cells #[.iface 22 (.int .u64 a.up), .iface 22 (.int .u64 (IntKind.u64.wrap (IntKind.u64.wrap a.shift + 9223372036854775808)))] 20)).alloc (.cells #[.int .u8 (a.flag)] 5)).drew).grown h4.grown (Ne.symm hrowg)
                have hg4 : ((w2.alloc (.cells #[.iface 22 (.int .u64 a.up), .iface 22 (.int .u64 (IntKind.u64.wrap (IntKind.u64.wrap a.shift + 9223372036854775808)))] 20)).alloc (.cells #[.int .u8 (a.flag)] 5)).grownBy w4 (Value.slice A2 e0.length c2).ownBlock := ⟨h4.grown.os, h4.grown.tape, h4.grown.output, h4.grown.size, h4.grown.block⟩
                have hb4 : Below w1.heap.size w2 w4 := ((((Below.refl _ w2).alloc hw12 (.cells #[.iface 22 (.int .u64 a.up), .iface 22 (.int .u64 (IntKind.u64.wrap (IntKind.u64.wrap a.shift + 9223372036854775808)))] 20)).alloc (by first | (simp; done) | (simp; omega)) (.cells #[.int .u8 (a.flag)] 5)).trans (grown_below hg4 (show w1.heap.size ≤ ((w2.alloc (.cells #[.iface 22 (.int .u64 a.up), .iface 22 (.int .u64 (IntKind.u64.wrap (IntKind.u64.wrap a.shift + 9223372036854775808)))] 20)).alloc (.cells #[.int .u8 (a.flag)] 5)).heap.size by first | (simp; done) | (simp; omega)) (fun b hb => (HO2.out.lt b hb).1)))
                have hr9 : Rb w4 (w2.heap.size + 1 + 1) (some ⟨w2.heap.size + 1, 0, none⟩) [a.flag] := Rd.block4 HR21.out hg4 (by first | (simp; done) | (simp; omega)) (hrown 1)
                obtain ⟨s0, s1, s2⟩ : w4.cell? ⟨g, 11, none⟩ = some (.int .u64 a.up) ∧ w4.cell? ⟨g, 12, none⟩ = some (.int .i64 a.shift) ∧ w4.cell? ⟨g, 13, none⟩ = some (.int .i64 a.flag) := ⟨bk4.cell 11, bk4.cell 12, bk4.cell 13⟩)
             | ((with_reducible refine CP3.out.mono ?_)
                rintro e w4 ⟨A4, c4, rfl, h4, -⟩
                have bk4 := (((HBK.out.alloc (.cells #[.int .u8 (a.flag)] 5)).alloc (.cells #[.iface 22 (.int .u64 a.up), .iface 22 (.int .u64 (IntKind.u64.wrap (IntKind.u64.wrap a.shift + 9223372036854775808)))] 20)).drew).grown h4.grown (Ne.symm hrowg)
                have hg4 : ((w2.alloc (.cells #[.int .u8 (a.flag)] 5)).alloc (.cells #[.iface 22 (.int .u64 a.up), .iface 22 (.int .u64 (IntKind.u64.wrap (IntKind.u64.wrap a.shift + 9223372036854775808)))] 20)).grownBy w4 (Value.slice A2 e0.length c2).ownBlock := ⟨h4.grown.os, h4.grown.tape, h4.grown.output, h4.grown.size, h4.grown.block⟩
                have hb4 : Below w1.heap.size w2 w4 := ((((Below.refl _ w2).alloc hw12 (.cells #[.int .u8 (a.flag)] 5)).alloc (by first | (simp; done) | (simp; omega)) (.cells #[.iface 22 (.int .u64 a.up), .iface 22 (.int .u64 (IntKind.u64.wrap (IntKind.u64.wrap a.shift + 9223372036854775808)))] 20)).trans (grown_below hg4 (show w1.heap.size ≤ ((w2.alloc (.cells #[.int .u8 (a.flag)] 5)).alloc (.cells #[.iface 22 (.int .u64 a.up), .iface 22 (.int .u64 (IntKind.u64.wrap (IntKind.u64.wrap a.shift + 9223372036854775808)))] 20)).heap.size by first | (simp; done) | (simp; omega)) (fun b hb => (HO2.out.lt b hb).1)))
                have hr9 : Rb w4 (w2.heap.size + 1) (some ⟨w2.heap.size, 0, none⟩) [a.flag] := Rd.block4 HR12.out hg4 (by first | (simp; done) | (simp; omega)) (hrown 0)
                obtain ⟨s0, s1, s2⟩ : w4.cell? ⟨g, 11, none⟩ = some (.int .u64 a.up) ∧ w4.cell? ⟨g, 12, none⟩ = some (.int .i64 a.shift) ∧ w4.cell? ⟨g, 13, none⟩ = some (.int .i64 a.flag) := ⟨bk4.cell 11, bk4.cell 12, bk4.cell 13⟩))
          | (refine step_appK (by rfl) (.tmp 35) (.tmp 39) (by rfl) w1.heap.size (.slice A4 z4.length c4) z4.length z4 (by rfl) (h4.own.alloc (.cells #[.int .u8 (a.flag)] 5)) _ (some ⟨w4.heap.size, 0, none⟩) 1 1 [a.flag] (by rfl) (by rfl) (Rd.lit w4 #[.int .u8 (a.flag)] _) (by omega) (by have := hb4.size; simp; omega) ?_
             intro A9 c9 w9 happ9 _
             have hg9 : (Value.slice A4 z4.length c4).ownBlock ≠ some g := fun e => by have h := (h4.own.lt g e).1; omega
             have bk9 := (bk4.alloc (.cells #[.int .u8 (a.flag)] 5)).grown happ9.grown (Ne.symm hg9)
             obtain ⟨u0, u1, u2⟩ : w9.cell? ⟨g, 11, none⟩ = some (.int .u64 a.up) ∧ w9.cell? ⟨g, 12, none⟩ = some (.int .i64 a.shift) ∧ w9.cell? ⟨g, 13, none⟩ = some (.int .i64 a.flag) := ⟨bk9.cell 11, bk9.cell 12, bk9.cell 13⟩
             have hfin := ((App.refl h4.own).alloc (.cells #[.int .u8 (a.flag)] 5)).trans happ9)
          | (refine step_appK (by rfl) (.tmp 35) (.tmp 39) (by rfl) w1.heap.size (.slice A4 z4.length c4) z4.length z4 (by rfl) h4.own _ _ 1 1 [a.flag] (by rfl) (by rfl) hr9 (by omega) (by have := hb4.size; omega) ?_
             intro A9 c9 w9 happ9 _
             have hg9 : (Value.slice A4 z4.length c4).ownBlock ≠ some g := fun e => by have h := (h4.own.lt g e).1; omega
             have bk9 := bk4.grown happ9.grown (Ne.symm hg9)
             obtain ⟨u0, u1, u2⟩ : w9.cell? ⟨g, 11, none⟩ = some (.int .u64 a.up) ∧ w9.cell? ⟨g, 12, none⟩ = some (.int .i64 a.shift) ∧ w9.cell? ⟨g, 13, none⟩ = some (.int .i64 a.flag) := ⟨bk9.cell 11, bk9.cell 12, bk9.cell 13⟩
             have hfin := happ9)
          | fail)
      all_goals
        go_wp2
        go_ret2
        have hlo : ∀ b, (Value.slice A4 z4.length c4).ownBlock = some b → w1.heap.size ≤ b := fun b hb => (h4.own.lt b hb).1
        have hb9 : Below w1.heap.size w2 w9 := hb4.trans (hfin.below (Nat.le_trans hw12 hb4.size) hlo)
        have hw01 := HB0.out.size
        refine ⟨A9, c9, by rw [HR.out, HAD.out, List.length_append]; rfl, by rw [HR.out, HAD.out]; exact hfin.rd, HBW.out.trans (hb9.mono hw01), by rw [HR.out, HAD.out, List.length_append]; exact hfin.cap, fun e => ?_, fun x e => ?_⟩
        · subst e
          rcases hfin.own.2 with ⟨_, h3⟩ | ⟨_, _, _, h2, _⟩
          · omega
          · injection h2 with h2; cases h2
        · subst e
          exact Nat.le_trans hw01 (hfin.own.lt x.block rfl).1
end Go.Proofs.Ytlamebbolioljaa

/- Spans: the reader that keeps the first error. -/
namespace Go.Proofs.Ytlamebbolioljaa
open Go.RowKit

/-- What a reader's state is: the place, the error, whether something else was bad. -/
structure RS where
  p : Nat
  e : Nat
  bad : Bool
def RS.stop (s : RS) : Bool := s.bad || decide (s.e ≠ 0)
def rEight (zs : List Int) (s : RS) : Nat × RS := if s.stop = true then (0, s) else (if (rdFix zs s.p s.e 8).1.length < 8 then 0 else ordVal (rdFix zs s.p s.e 8).1, ⟨(rdFix zs s.p s.e 8).2.1, (rdFix zs s.p s.e 8).2.2, s.bad⟩)
def rText (zs : List Int) (s : RS) : ByteArray × RS := if s.stop = true then (⟨#[]⟩, s) else (strOfNums (rdPiece zs s.p s.e).1, ⟨(rdPiece zs s.p s.e).2.1, (rdPiece zs s.p s.e).2.2, s.bad⟩)
def rOne (most : Int) (zs : List Int) (s : RS) : Int × RS := if s.stop = true then (0, s) else
  match (rdFix zs s.p s.e 1).1 with
  | [x] => (x, ⟨(rdFix zs s.p s.e 1).2.1, (rdFix zs s.p s.e 1).2.2, decide (most < x)⟩)
  | _ => (0, ⟨(rdFix zs s.p s.e 1).2.1, (rdFix zs s.p s.e 1).2.2, s.bad⟩)
def rShort (most : Nat) (zs : List Int) (s : RS) : Nat × RS := if s.stop = true then (0, s) else
  if most < (rdNum zs s.p s.e).1 then (0, ⟨(rdNum zs s.p s.e).2.1, (rdNum zs s.p s.e).2.2, true⟩) else ((rdNum zs s.p s.e).1, ⟨(rdNum zs s.p s.e).2.1, (rdNum zs s.p s.e).2.2, s.bad⟩)

/-- w' is w but for what lies in g and h. -/
structure Only2 (w w' : World) (g h : Nat) : Prop where
  os : w'.os = w.os
  tape : w'.tape = w.tape
  output : w'.output = w.output
  size : w.heap.size ≤ w'.heap.size
  block : ∀ i, i < w.heap.size → i ≠ g → i ≠ h → w'.heap[i]? = w.heap[i]?
theorem Only2.refl (w : World) (g h : Nat) : Only2 w w g h := ⟨rfl, rfl, rfl, Nat.le_refl _, fun _ _ _ _ => rfl⟩
theorem Only2.trans {a b c : World} {g h : Nat} (x : Only2 a b g h) (y : Only2 b c g h) : Only2 a c g h :=
  ⟨y.os.trans x.os, y.tape.trans x.tape, y.output.trans x.output, Nat.le_trans x.size y.size, fun i hi h1 h2 => (y.block i (Nat.lt_of_lt_of_le hi x.size) h1 h2).trans (x.block i hi h1 h2)⟩
theorem Only2.of {w w' : World} {g : Nat} (x : w.grownBy w' (some g)) (h : Nat) : Only2 w w' g h := ⟨x.os, x.tape, x.output, x.size, fun i hi h1 _ => x.block i hi (fun e => h1 (by injection e))⟩
theorem Only2.set {w w' : World} {g h : Nat} (x : Only2 w w' g h) (o : Nat) (u : Value) : Only2 w (w'.setCell ⟨h, o, none⟩ u) g h :=
  ⟨x.os, x.tape, x.output, by simpa [World.setCell] using x.size, fun i hi h1 h2 => (Below.heap_setCell w' _ u i (by rintro rfl; exact h2 rfl)).trans (x.block i hi h1 h2)⟩
theorem Only2.drewN {w w' : World} {g h : Nat} (x : Only2 w w' g h) (n : Nat) : Only2 w (w'.drewN n) g h := ⟨x.os, x.tape, x.output, x.size, x.block⟩
theorem Only2.bk {w w' : World} {g h k : Nat} {t : TypeId} {cs : Array Value} (x : Only2 w w' g h) (b : Bk w k t cs) (h1 : k ≠ g) (h2 : k ≠ h) : Bk w' k t cs := (x.block k b.lt h1 h2).trans b
theorem Only2.below {w w' : World} {g h B : Nat} (x : Only2 w w' g h) (hB : B ≤ w.heap.size) (h1 : B ≤ g) (h2 : B ≤ h) : Below B w w' := ⟨x.os, x.tape, x.output, x.size, fun i hi => x.block i (by omega) (by omega) (by omega)⟩

/-- The reader at block h: wire's reader at g, and whether something was bad. -/
structure SRd (w : World) (h g : Nat) (A : Option Addr) (c : Nat) (zs : List Int) (s : RS) : Prop where
  blk : Bk w h 124 #[.pointer (some ⟨g, 0, none⟩), .bool s.bad]
  rdr : Rdr w g A c zs s.p s.e
  ne : h ≠ g
  far : ∀ a, A = some a → a.block ≠ h
  err : s.e ≤ 100
theorem SRd.drewN {w : World} {h g c : Nat} {A : Option Addr} {zs : List Int} {s : RS} (x : SRd w h g A c zs s) (n : Nat) : SRd (w.drewN n) h g A c zs s := ⟨x.blk.drewN n, x.rdr.drewN n, x.ne, x.far, x.err⟩
/-- What is done elsewhere leaves the reader. -/
theorem SRd.keep {w w' : World} {h g c : Nat} {A : Option Addr} {zs : List Int} {s : RS} (x : SRd w h g A c zs s) {row : Option Nat} (hg : w.grownBy w' row) (h1 : row ≠ some g) (h2 : row ≠ some h) (h3 : ∀ a, A = some a → row ≠ some a.block) : SRd w' h g A c zs s :=
  ⟨(hg.block h x.blk.lt (fun e => h2 e.symm)).trans x.blk, x.rdr.keep hg h1 h3, x.ne, x.far, x.err⟩
theorem SRd.below {w w' : World} {h g c : Nat} {A : Option Addr} {zs : List Int} {s : RS} (x : SRd w h g A c zs s) (hg : Below w.heap.size w w') : SRd w' h g A c zs s :=
  x.keep (row := none) ⟨hg.os, hg.tape, hg.output, hg.size, fun k hk _ => hg.block k hk⟩ (by simp) (by simp) (by simp)
/-- wire's reader has moved on. -/
theorem SRd.move {w w' : World} {h g c p e : Nat} {A : Option Addr} {zs : List Int} {s : RS} (x : SRd w h g A c zs s) (hr : Rdr w' g A c zs p e) (hg : w.grownBy w' (some g)) (he : e ≤ 100) : SRd w' h g A c zs ⟨p, e, s.bad⟩ :=
  ⟨(hg.block h x.blk.lt (fun e => x.ne (by injection e))).trans x.blk, hr, x.ne, x.far, he⟩
theorem SRd.setBad {w : World} {h g c : Nat} {A : Option Addr} {zs : List Int} {s : RS} (x : SRd w h g A c zs s) (b : Bool) : SRd (w.setCell ⟨h, 1, none⟩ (.bool b)) h g A c zs ⟨s.p, s.e, b⟩ := by
  have hg : w.grownBy (w.setCell ⟨h, 1, none⟩ (.bool b)) (some h) := only_set (World.grownBy.refl w _) 1 _
  exact ⟨x.blk.set 1 _, x.rdr.keep hg (fun e => x.ne (by injection e)) (fun a ha e => x.far a ha (by injection e with e; exact e.symm)), x.ne, x.far, x.err⟩

theorem rdFix_err (zs : List Int) (p e n : Nat) (he : e ≤ 100) : (rdFix zs p e n).2.2 ≤ 100 := by
  unfold rdFix; split
  · exact he
  · split <;> simp
theorem rdFix_byt {zs : List Int} (hz : Byt zs) (p e n : Nat) : Byt (rdFix zs p e n).1 := by
  unfold rdFix; split
  · intro x hx; simp at hx
  · split
    · intro x hx; simp at hx
    · exact (hz.drop p).take n
theorem rdPiece_byt {zs : List Int} (hz : Byt zs) (p e : Nat) : Byt (rdPiece zs p e).1 := by
  unfold rdPiece; split
  · intro x hx; simp at hx
  · split
    · intro x hx; simp at hx
    · split
      · intro x hx; simp at hx
      · split
        · intro x hx; simp at hx
        · exact (hz.drop _).take _
theorem rdPiece_err {zs : List Int} (hz : Byt zs) (p e : Nat) (he : e ≤ 100) : (rdPiece zs p e).2.2 ≤ 100 := by
  have := shortOf_le (hz.drop p)
  unfold rdPiece; split
  · exact he
  · split
    · simp only; omega
    · split
      · simp
      · split <;> simp
theorem rdNum_err {zs : List Int} (hz : Byt zs) (p e : Nat) (he : e ≤ 100) : (rdNum zs p e).2.2 ≤ 100 := by
  have := shortOf_le (hz.drop p)
  unfold rdNum; split
  · exact he
  · simp only; omega

theorem spWrong {A : Option Addr} {c h g : Nat} {zs : List Int} {s : RS} (w : World) (x : SRd w h g A c zs s) :
    Calls Try.prog 93 #[.pointer (some ⟨h, 0, none⟩)] w fun e w' => e = .returned (.bool s.stop) ∧ w' = w := by
  have k0 : w.cell? ⟨h, 0, none⟩ = some (.pointer (some ⟨g, 0, none⟩)) := x.blk.cell 0
  have k1 : w.cell? ⟨h, 1, none⟩ = some (.bool s.bad) := x.blk.cell 1
  obtain ⟨p, e, bad⟩ := s
  cases bad with
  | true =>
    have hs : RS.stop ⟨p, e, true⟩ = true := rfl
    rw [hs]
    go_enter Try.func93, Try.ntmps93
    go_wp2
    go_ret
    exact ⟨rfl, rfl⟩
  | false =>
    have hE := Lib.hid (rdrErr w x.rdr)
    have hs : RS.stop ⟨p, e, false⟩ = ((e : Int) != 0) := by
      rw [Bool.eq_iff_iff]
      simp [RS.stop]
    rw [hs]
    clear hs
    go_enter Try.func93, Try.ntmps93
    go_wp2_with (go_at_call 82; refine hE.out.mono ?_; rintro en w' ⟨rfl, hw⟩; rw [hw]; clear hw w')
    go_ret
    exact ⟨rfl, rfl⟩

def RPost (v : Value) (w : World) (h g : Nat) (A : Option Addr) (c : Nat) (zs : List Int) (s : RS) (e : Ending) (w' : World) : Prop :=
  e = .returned v ∧ SRd w' h g A c zs s ∧ Only2 w w' g h
theorem stop_false {s : RS} (h : s.stop = false) : s.e = 0 ∧ s.bad = false := by
  unfold RS.stop at h
  simp at h
  exact ⟨h.2, h.1⟩
theorem rdFix_len (zs : List Int) (p e n : Nat) : (rdFix zs p e n).1 = [] ∨ (rdFix zs p e n).1.length = n := by
  unfold rdFix
  split
  · exact .inl rfl
  · split
    · exact .inl rfl
    · right
      simp only [List.length_take, List.length_drop]
      omega

set_option maxHeartbeats 400000 in
theorem spEight {A : Option Addr} {c h g : Nat} {zs : List Int} {s : RS} (w : World) (x : SRd w h g A c zs s) :
    Calls Try.prog 78 #[.pointer (some ⟨h, 0, none⟩)] w (RPost (.int .u64 (rEight zs s).1) w h g A c zs (rEight zs s).2) := by
  have k0 : w.cell? ⟨h, 0, none⟩ = some (.pointer (some ⟨g, 0, none⟩)) := x.blk.cell 0
  have hW := spWrong w x
  cases hs : s.stop with
  | true =>
    have hr : rEight zs s = (0, s) := by rw [rEight, if_pos hs]
    rw [hr]
    rw [hs] at hW
    have HW := Lib.hid hW
    clear hW hs
    go_enter Try.func78, Try.ntmps78
    go_wp2_with (go_at_call 93; refine HW.out.mono ?_; rintro en w' ⟨rfl, hw⟩; rw [hw]; clear hw w')
    go_ret
    exact ⟨rfl, x, Only2.refl _ _ _⟩
  | false =>
    rw [hs] at hW
    have HW := Lib.hid hW
    have hF := Lib.hid (rdrFixed (n := 8) w x.rdr x.err (by omega))
    have hE := rdFix_err zs s.p s.e 8 x.err
    have hL := rdFix_len zs s.p s.e 8
    have hY := rdFix_byt x.rdr.byt s.p s.e 8
    have hr : rEight zs s = (if (rdFix zs s.p s.e 8).1.length < 8 then 0 else ordVal (rdFix zs s.p s.e 8).1, ⟨(rdFix zs s.p s.e 8).2.1, (rdFix zs s.p s.e 8).2.2, s.bad⟩) := by rw [rEight, if_neg (by rw [hs]; simp)]
    rw [hr]
    obtain ⟨out, p', e', ho⟩ : ∃ out p' e', rdFix zs s.p s.e 8 = (out, p', e') := ⟨_, _, _, rfl⟩
    rw [ho] at hF hE hL hY ⊢
    simp only at hF hE hL hY ⊢
    clear hW hs hr ho
    rcases hL with h0 | h0
    · subst h0
      have e0 : (if ([] : List Int).length < 8 then 0 else ordVal []) = 0 := rfl
      rw [e0]
      go_enter Try.func78, Try.ntmps78
      go_wp2_with (go_at_call 93; refine HW.out.mono ?_; rintro en w' ⟨rfl, hw⟩; rw [hw]; clear hw w')
      refine hF.out.mono ?_
      rintro en w3 ⟨A', c', rfl, hR, hg, hrd, hcp, hlo, hnil⟩
      go_wp2_with fail
      refine (wireReadOrdered0 _ (by simp)).mono ?_
      rintro en w4 ⟨rfl, rfl⟩
      go_wp2
      go_ret
      exact ⟨rfl, x.move hR hg hE, Only2.of hg h⟩
    · have e0 : (if out.length < 8 then 0 else ordVal out) = ordVal out := by rw [if_neg (by omega)]
      rw [e0]
      have H0 := Lib.hid h0
      clear h0 e0
      go_enter Try.func78, Try.ntmps78
      go_wp2_with (go_at_call 93; refine HW.out.mono ?_; rintro en w' ⟨rfl, hw⟩; rw [hw]; clear hw w')
      refine hF.out.mono ?_
      rintro en w3 ⟨A', c', rfl, hR, hg, hrd, hcp, hlo, hnil⟩
      have hro := wireReadOrdered1 _ hrd hY (by rw [H0.out]; simp [maxLen]) (by have := H0.out; omega) rfl hcp
      rw [List.take_of_length_le (by have := H0.out; omega)] at hro
      have HRO := Lib.hid hro
      clear hro
      go_wp2_with fail
      refine HRO.out.mono ?_
      rintro en w4 ⟨rfl, rfl⟩
      go_wp2
      go_ret
      exact ⟨rfl, x.move hR hg hE, Only2.of hg h⟩

set_option maxHeartbeats 400000 in
theorem spRText {A : Option Addr} {c h g : Nat} {zs : List Int} {s : RS} (w : World) (x : SRd w h g A c zs s) :
    Calls Try.prog 79 #[.pointer (some ⟨h, 0, none⟩)] w (RPost (.string (rText zs s).1) w h g A c zs (rText zs s).2) := by
  have k0 : w.cell? ⟨h, 0, none⟩ = some (.pointer (some ⟨g, 0, none⟩)) := x.blk.cell 0
  have hW := spWrong w x
  cases hs : s.stop with
  | true =>
    have hr : rText zs s = (⟨#[]⟩, s) := by rw [rText, if_pos hs]
    rw [hr]
    rw [hs] at hW
    have HW := Lib.hid hW
    clear hW hs
    go_enter Try.func79, Try.ntmps79
    go_wp2_with (go_at_call 93; refine HW.out.mono ?_; rintro en w' ⟨rfl, hw⟩; rw [hw]; clear hw w')
    go_ret
    exact ⟨rfl, x, Only2.refl _ _ _⟩
  | false =>
    rw [hs] at hW
    have HW := Lib.hid hW
    have hF := Lib.hid (rdrPiece w x.rdr x.err)
    have hE := rdPiece_err x.rdr.byt s.p s.e x.err
    have hY := rdPiece_byt x.rdr.byt s.p s.e
    have hr : rText zs s = (strOfNums (rdPiece zs s.p s.e).1, ⟨(rdPiece zs s.p s.e).2.1, (rdPiece zs s.p s.e).2.2, s.bad⟩) := by rw [rText, if_neg (by rw [hs]; simp)]
    rw [hr]
    obtain ⟨out, p', e', ho⟩ : ∃ out p' e', rdPiece zs s.p s.e = (out, p', e') := ⟨_, _, _, rfl⟩
    rw [ho] at hF hE hY ⊢
    simp only at hF hE hY ⊢
    clear hW hs hr ho
    go_enter Try.func79, Try.ntmps79
    go_wp2_with (go_at_call 93; refine HW.out.mono ?_; rintro en w' ⟨rfl, hw⟩; rw [hw]; clear hw w')
    refine hF.out.mono ?_
    rintro en w3 ⟨A', c', rfl, hR, hg, hrd, hcp, hlo, hnil⟩
    have hconv := Rb.str (P := Try.prog) hrd Try.underlying27 Try.underlying5 Try.underlying9 c'
    go_wp2
    go_ret
    exact ⟨rfl, x.move hR hg hE, Only2.of hg h⟩

set_option maxHeartbeats 400000 in
theorem spOne {A : Option Addr} {c h g : Nat} {zs : List Int} {s : RS} (most : Int) (w : World) (x : SRd w h g A c zs s) :
    Calls Try.prog 80 #[.pointer (some ⟨h, 0, none⟩), .int .u8 most] w (RPost (.int .u8 (rOne most zs s).1) w h g A c zs (rOne most zs s).2) := by
  have k0 : w.cell? ⟨h, 0, none⟩ = some (.pointer (some ⟨g, 0, none⟩)) := x.blk.cell 0
  have hW := spWrong w x
  cases hs : s.stop with
  | true =>
    have hr : rOne most zs s = (0, s) := by rw [rOne, if_pos hs]
    rw [hr]
    rw [hs] at hW
    have HW := Lib.hid hW
    clear hW hs
    go_enter Try.func80, Try.ntmps80
    go_wp2_with (go_at_call 93; refine HW.out.mono ?_; rintro en w' ⟨rfl, hw⟩; rw [hw]; clear hw w')
    go_ret
    exact ⟨rfl, x, Only2.refl _ _ _⟩
  | false =>
    rw [hs] at hW
    have HW := Lib.hid hW
    have hF := Lib.hid (rdrFixed (n := 1) w x.rdr x.err (by omega))
    have hE := rdFix_err zs s.p s.e 1 x.err
    have hL := rdFix_len zs s.p s.e 1
    have hr : rOne most zs s = match (rdFix zs s.p s.e 1).1 with
        | [x] => (x, ⟨(rdFix zs s.p s.e 1).2.1, (rdFix zs s.p s.e 1).2.2, decide (most < x)⟩)
        | _ => (0, ⟨(rdFix zs s.p s.e 1).2.1, (rdFix zs s.p s.e 1).2.2, s.bad⟩) := by rw [rOne, if_neg (by rw [hs]; simp)]
    rw [hr]
    obtain ⟨out, p', e', ho⟩ : ∃ out p' e', rdFix zs s.p s.e 1 = (out, p', e') := ⟨_, _, _, rfl⟩
    rw [ho] at hF hE hL ⊢
    simp only at hF hE hL ⊢
    clear hW hs hr ho
    rcases hL with h0 | h0
    · subst h0
      go_enter Try.func80, Try.ntmps80
      go_wp2_with (go_at_call 93; refine HW.out.mono ?_; rintro en w' ⟨rfl, hw⟩; rw [hw]; clear hw w')
      refine hF.out.mono ?_
      rintro en w3 ⟨A', c', rfl, hR, hg, hrd, hcp, hlo, hnil⟩
      go_wp2
      go_ret
      exact ⟨rfl, x.move hR hg hE, Only2.of hg h⟩
    · obtain ⟨y, rfl⟩ : ∃ y, out = [y] := List.length_eq_one_iff.1 h0
      clear h0
      go_enter Try.func80, Try.ntmps80
      go_wp2_with (go_at_call 93; refine HW.out.mono ?_; rintro en w' ⟨rfl, hw⟩; rw [hw]; clear hw w')
      refine hF.out.mono ?_
      rintro en w3 ⟨A', c', rfl, hR, hg, hrd, hcp, hlo, hnil⟩
      obtain ⟨b, o, y', hy', rfl, hb, hcell⟩ := hrd.get (k := 0) (by simp)
      simp at hy'
      subst hy'
      rw [Nat.add_zero] at hcell
      have x3 := x.move hR hg hE
      have k1 : w3.cell? ⟨h, 1, none⟩ = some (.bool s.bad) := x3.blk.cell 1
      have f1 : w3.frozen? ⟨h, 1, none⟩ = false := x3.blk.frozen 1
      have k0' : w3.cell? ⟨h, 0, none⟩ = some (.pointer (some ⟨g, 0, none⟩)) := x3.blk.cell 0
      have hbh : b ≠ h := fun e => by
        have := hlo _ rfl
        have hh := x.blk.lt
        simp at this
        omega
      have hcell' : (w3.setCell ⟨h, 1, none⟩ (.bool (decide (most < y)))).cell? ⟨b, o, none⟩ = some (.int .u8 y) := (World.cell?_setCell_other w3 _ ⟨b, o, none⟩ _ (fun e => hbh (congrArg Addr.block e).symm)).trans hcell
      go_wp2
      go_ret
      exact ⟨rfl, x3.setBad _, (Only2.of hg h).set 1 _⟩

set_option maxHeartbeats 400000 in
theorem spShort {A : Option Addr} {c h g : Nat} {zs : List Int} {s : RS} (most : Nat) (hm : most ≤ 4611686018427387903) (w : World) (x : SRd w h g A c zs s) :
    Calls Try.prog 81 #[.pointer (some ⟨h, 0, none⟩), .int .u64 most] w (RPost (.int .i64 (rShort most zs s).1) w h g A c zs (rShort most zs s).2) := by
  have k0 : w.cell? ⟨h, 0, none⟩ = some (.pointer (some ⟨g, 0, none⟩)) := x.blk.cell 0
  have hW := spWrong w x
  cases hs : s.stop with
  | true =>
    have hr : rShort most zs s = (0, s) := by rw [rShort, if_pos hs]
    rw [hr]
    rw [hs] at hW
    have HW := Lib.hid hW
    clear hW hs
    go_enter Try.func81, Try.ntmps81
    go_wp2_with (go_at_call 93; refine HW.out.mono ?_; rintro en w' ⟨rfl, hw⟩; rw [hw]; clear hw w')
    go_ret
    exact ⟨rfl, x, Only2.refl _ _ _⟩
  | false =>
    rw [hs] at hW
    have HW := Lib.hid hW
    have hE := rdNum_err x.rdr.byt s.p s.e x.err
    have hr : rShort most zs s = if most < (rdNum zs s.p s.e).1 then (0, ⟨(rdNum zs s.p s.e).2.1, (rdNum zs s.p s.e).2.2, true⟩) else ((rdNum zs s.p s.e).1, ⟨(rdNum zs s.p s.e).2.1, (rdNum zs s.p s.e).2.2, s.bad⟩) := by rw [rShort, if_neg (by rw [hs]; simp)]
    rw [hr]
    obtain ⟨v, p', e', ho⟩ : ∃ v p' e', rdNum zs s.p s.e = (v, p', e') := ⟨_, _, _, rfl⟩
    have hF2 : Calls Try.prog 96 #[.pointer (some ⟨g, 0, none⟩)] w (fun en w' => en = .returned (.int .u64 v) ∧ Rdr w' g A c zs p' e' ∧ w.grownBy w' (some g)) := by
      have := rdrNumber w x.rdr x.err
      unfold NumPost at this
      rw [ho] at this
      exact this
    rw [ho] at hE ⊢
    simp only at hE ⊢
    have HF := Lib.hid hF2
    clear hW hs hr ho hF2
    by_cases hv : most < v
    · rw [if_pos hv]
      have d1 : (most : Int) < (v : Int) := by omega
      go_enter Try.func81, Try.ntmps81
      go_wp2_with (go_at_call 93; refine HW.out.mono ?_; rintro en w' ⟨rfl, hw⟩; rw [hw]; clear hw w')
      refine HF.out.mono ?_
      rintro en w3 ⟨rfl, hR, hg⟩
      have x3 := x.move hR hg hE
      have k1 : w3.cell? ⟨h, 1, none⟩ = some (.bool s.bad) := x3.blk.cell 1
      have f1 : w3.frozen? ⟨h, 1, none⟩ = false := x3.blk.frozen 1
      go_wp2
      go_ret
      exact ⟨rfl, x3.setBad _, (Only2.of hg h).set 1 _⟩
    · rw [if_neg hv]
      have d1 : decide ((most : Int) < (v : Int)) = false := by simp; omega
      have d2 : (v : Int) ≤ 4611686018427387903 := by omega
      go_enter Try.func81, Try.ntmps81
      go_wp2_with (go_at_call 93; refine HW.out.mono ?_; rintro en w' ⟨rfl, hw⟩; rw [hw]; clear hw w')
      refine HF.out.mono ?_
      rintro en w3 ⟨rfl, hR, hg⟩
      have x3 := x.move hR hg hE
      go_wp2
      go_ret
      exact ⟨rfl, x3, Only2.of hg h⟩
end Go.Proofs.Ytlamebbolioljaa

/- Spans: Parse: what it computes, its memory. -/
namespace Go.Proofs.Ytlamebbolioljaa
open Go.RowKit

/-- What Parse has read ahead of the tags: the span without them, their number, the reader. -/
def prHead (zs : List Int) : Sp × Nat × RS :=
  let a := rEight zs ⟨0, 0, false⟩
  let b := rEight zs a.2
  let c := rEight zs b.2
  let d := rEight zs c.2
  let e := rText zs d.2
  let f := rText zs e.2
  let k := rOne 255 zs f.2
  let st := rShort 4611686018427387903 zs k.2
  let ln := rShort 4611686018427387903 zs st.2
  let fl := rOne 1 zs ln.2
  let n := rShort 16 zs fl.2
  (⟨a.1, b.1, c.1, d.1, e.1, f.1, k.1, st.1, ln.1, fl.1 == 1, []⟩, n.1, n.2)
def prTags (zs : List Int) : Nat → List Tg → RS → List Tg × RS
  | 0, acc, s => (acc, s)
  | n + 1, acc, s => prTags zs n (acc ++ [⟨(rText zs s).1, (rText zs (rText zs s).2).1⟩]) (rText zs (rText zs s).2).2
/-- The span that was read, and the reader behind it. -/
def prAll (zs : List Int) : Sp × RS := ({ (prHead zs).1 with tags := (prTags zs (prHead zs).2.1 [] (prHead zs).2.2).1 }, (prTags zs (prHead zs).2.1 [] (prHead zs).2.2).2)
def prErrOf (zs : List Int) (s : Sp) (r : RS) : Nat :=
  if r.e ≠ 0 then r.e else if r.bad = true then 4 else if r.p < zs.length then 4 else spChk s
/-- What Parse tells. -/
def prErr (zs : List Int) : Nat := prErrOf zs (prAll zs).1 (prAll zs).2
def zeroSp : Sp := ⟨0, 0, 0, 0, ⟨#[]⟩, ⟨#[]⟩, 0, 0, 0, false, []⟩
/-- A zero span's cells. -/
abbrev zspC : Array Value := #[.int .u64 0, .int .u64 0, .int .u64 0, .int .u64 0, .string ⟨#[]⟩, .string ⟨#[]⟩, .int .i64 0, .int .i64 0, .int .i64 0, .bool false, .slice none 0 0]
def prSp (zs : List Int) : Sp := if prErr zs = 0 then (prAll zs).1 else zeroSp

theorem tginfo : (Try.prog.info? 97).map (fun i => (i.zero, i.size, i.bytes)) = some (some (.agg #[.string ⟨#[]⟩, .string ⟨#[]⟩]), 2, 32) := by kernel_rfl
/-- append of tags. -/
theorem wp_appT (w : World) {o : Oper} {a : Act} {K : Act → World → Prop} {Q : Exit → Act → World → Prop} (s x : Operand)
    (ho : o.op = .call { callee := .builtin .append, args := #[s, x], argTypes := #[41, 41] })
    (base : Nat) (v : Value) (n : Nat) (l : List Tg) (hs : a.eval s = v) (hown : w.ownsRow base 97 2 v n (tgs l))
    (B : Nat) (A : Option Addr) (m c : Nat) (news : List Tg) (hx : a.eval x = .slice A m c) (hl : news.length = m) (hr : RbT w B A news)
    (hbytes : n + m ≤ 4398046511104) (hbase : base ≤ w.heap.size)
    (h : ∀ A' c' w', App base 97 2 w v w' (.slice A' (n + m) c') (n + m) (tgs (l ++ news)) → (A' = none → v = .slice none 0 0 ∧ m = 0) → K (a.put o.dst (.slice A' (n + m) c')) w') :
    o.wp Try.prog a w K Q := by
  obtain ⟨i0, hi0, hz0, hz1, hz2⟩ := info_parts tginfo
  refine wp_app w s x _ ho base 97 i0 _ 2 32 Try.underlying41 hi0 hz0 hz1 hz2 rfl (by omega) v n (tgs l) hs hown B A m c (tgs news) hx (by rw [tgs_length, hl]) hr (tgs_one news) (by simp only [maxLen]; omega) (by omega) hbase ?_
  intro A' c' w' h1 h2 h3 h4
  rw [← tgs_append] at h1
  exact h A' c' w' ((App.refl hown).step h1 h2 h3) h4
theorem step_appT {w : World} {ops : Array Oper} {o : Oper} {a : Act} {K : Act → World → Prop} {Q : Exit → Act → World → Prop} {E : Prop} (hgd : o.guard = none) (s x : Operand)
    (ho : o.op = .call { callee := .builtin .append, args := #[s, x], argTypes := #[41, 41] })
    (base : Nat) (v : Value) (n : Nat) (l : List Tg) (hs : a.eval s = v) (hown : w.ownsRow base 97 2 v n (tgs l))
    (B : Nat) (A : Option Addr) (m c : Nat) (news : List Tg) (hx : a.eval x = .slice A m c) (hl : news.length = m) (hr : RbT w B A news)
    (hbytes : n + m ≤ 4398046511104) (hbase : base ≤ w.heap.size)
    (h : ∀ A' c' w', App base 97 2 w v w' (.slice A' (n + m) c') (n + m) (tgs (l ++ news)) → (A' = none → v = .slice none 0 0 ∧ m = 0) → K (a.put o.dst (.slice A' (n + m) c')) w') :
    if Region.wanted o (yielded ops a.tmps) = true then Oper.wp Try.prog o a w K Q else E := by
  have hw : Region.wanted o (yielded ops a.tmps) = true := by simp [Region.wanted, hgd]
  rw [if_pos hw]
  exact wp_appT w s x ho base v n l hs hown B A m c news hx hl hr hbytes hbase h

/-- 'append', shut: what a walk through a drawn region is told of it by an equation. -/
def appK (ts : Array TypeId) (ty : TypeId) (vs : Array Value) : Sem Value := Builtin.append_ ts ty vs
theorem appK_shut (ts : Array TypeId) (ty : TypeId) (vs : Array Value) : Builtin.append_ ts ty vs = appK ts ty vs := rfl
theorem run_appT (w : World) (base : Nat) (v : Value) (n : Nat) (l : List Tg) (hown : w.ownsRow base 97 2 v n (tgs l))
    (B : Nat) (A : Option Addr) (m c : Nat) (news : List Tg) (hl : news.length = m) (hr : RbT w B A news) (hbytes : n + m ≤ 4398046511104) (hbase : base ≤ w.heap.size) :
    ∃ A' c' w', (appK #[41, 41] 41 #[v, .slice A m c]).run Try.prog w = .ok (.slice A' (n + m) c') w' ∧ App base 97 2 w v w' (.slice A' (n + m) c') (n + m) (tgs (l ++ news)) := by
  obtain ⟨i0, hi0, hz0, hz1, hz2⟩ := info_parts tginfo
  obtain ⟨v', w', hrun, h2, h3, h4, ⟨A', c', rfl⟩, h6⟩ := run_app (P := Try.prog) w base 41 41 97 i0 _ 2 32 Try.underlying41 hi0 hz0 hz1 hz2 rfl (by omega) v n (tgs l) hown B A m c (tgs news) (by rw [tgs_length, hl]) hr (tgs_one news) (by simp only [maxLen]; omega) (by omega) hbase
  rw [← tgs_append] at h2
  exact ⟨A', c', w', hrun, (App.refl hown).step h2 h3 h4⟩

theorem results_cell_row_tmp {P : Program} {fn : Func} {p u : Tmp} {ty : TypeId} (h : fn.results = #[.cell p ty, .tmp u]) (tmps : Array Value) (w : World) (g : Nat) (t : TypeId) (cs : Array Value) (d : TypeDesc)
    (hp : tmps.getD p undef = .pointer (some ⟨g, 0, none⟩)) (hg : Bk w g t cs)
    (hu : P.underlying ty = some d) (hd : (match d with | .struct _ | .array _ _ => true | _ => false) = true) (hi : (P.info? ty).map (·.size) = some cs.size) :
    (results fn tmps).run P w = .ok (.tuple #[.agg cs, tmps.getD u undef]) w := by
  rw [results_cell_tmp h, hp]
  simp [asAddr, Result.andThen, run_loadVar_row w g t ty cs (0, 0) d hg hu hd hi]
theorem spC_one (s : Sp) (A : Option Addr) (n c : Nat) : (spC s A n c).all (·.oneCell') = true := by simp [Value.oneCell']
theorem zspC_one : zspC.all (·.oneCell') = true := by simp [Value.oneCell']
/-- Parse's memory: the reader, the span it fills, the result, the tags. -/
structure PS (w0 W : World) (h g sb rb lo : Nat) (A : Option Addr) (c : Nat) (zs : List Int) (st : RS) (cells : Array Value) (At : Option Addr) (nt ct : Nat) (acc : List Tg) : Prop where
  rd : SRd W h g A c zs st
  sp : Bk W sb 43 cells
  rs : Bk W rb 43 zspC
  own : W.ownsRow lo 97 2 (.slice At nt ct) nt (tgs acc)
  len : acc.length = nt
  bel : Below w0.heap.size w0 W
  hlo : lo ≤ W.heap.size
  hg : w0.heap.size ≤ g ∧ g < lo
  hh : w0.heap.size ≤ h ∧ h < lo
  hs : w0.heap.size ≤ sb ∧ sb < lo
  hr : w0.heap.size ≤ rb ∧ rb < lo
  ne : sb ≠ g ∧ sb ≠ h ∧ rb ≠ g ∧ rb ≠ h ∧ rb ≠ sb
  hA : ∀ a, A = some a → a.block < lo ∧ a.block ≠ sb
section
variable {w0 W W' : World} {h g sb rb lo : Nat} {A : Option Addr} {c : Nat} {zs : List Int} {st st' : RS} {cells : Array Value} {At : Option Addr} {nt ct : Nat} {acc : List Tg}
theorem PS.call (p : PS w0 W h g sb rb lo A c zs st cells At nt ct acc) (hR : SRd W' h g A c zs st') (ho : Only2 W W' g h) : PS w0 W' h g sb rb lo A c zs st' cells At nt ct acc := by
  have hg1 := p.hg
  have hh1 := p.hh
  have hown : ∀ k, (Value.slice At nt ct).ownBlock = some k → k ≠ g ∧ k ≠ h := fun k hk => by
    have := (p.own.lt k hk).1
    omega
  refine ⟨hR, ho.bk p.sp p.ne.1 p.ne.2.1, ho.bk p.rs p.ne.2.2.1 p.ne.2.2.2.1, ?_, p.len, ?_, Nat.le_trans p.hlo ho.size, p.hg, p.hh, p.hs, p.hr, p.ne, p.hA⟩
  · refine ⟨p.own.1, p.own.2.imp id ?_⟩
    rintro ⟨k, cap, cur, hv, hk, r⟩
    obtain ⟨k1, k2⟩ := hown k (by rw [hv]; rfl)
    have hlt := (p.own.lt k (by rw [hv]; rfl)).2
    exact ⟨k, cap, cur, hv, hk, (ho.block k hlt k1 k2).trans r.1, r.2⟩
  · exact p.bel.trans (ho.below p.bel.size hg1.1 hh1.1)
theorem PS.store (p : PS w0 W h g sb rb lo A c zs st cells At nt ct acc) (o : Nat) (u : Value) : PS w0 (W.setCell ⟨sb, o, none⟩ u) h g sb rb lo A c zs st (cells.setIfInBounds o u) At nt ct acc := by
  have hst : W.grownBy (W.setCell ⟨sb, o, none⟩ u) (some sb) := only_set (World.grownBy.refl _ _) _ _
  have e0 := p.hs
  refine ⟨p.rd.keep hst (fun e => p.ne.1 (by injection e)) (fun e => p.ne.2.1 (by injection e)) (fun a ha e => (p.hA a ha).2 (by injection e with e; exact e.symm)), p.sp.set o u, p.rs.far (fun e => p.ne.2.2.2.2 e) u,
    p.own.kept hst (.inr fun e => by have := (p.own.lt sb e).1; omega), p.len, ?_, by simpa [World.setCell] using p.hlo, p.hg, p.hh, p.hs, p.hr, p.ne, p.hA⟩
  exact p.bel.trans ⟨hst.os, hst.tape, hst.output, hst.size, fun q hq => hst.block q (by have := p.bel.size; omega) (fun e => by injection e with e; omega)⟩
theorem PS.below (p : PS w0 W h g sb rb lo A c zs st cells At nt ct acc) (hb : Below W.heap.size W W') : PS w0 W' h g sb rb lo A c zs st cells At nt ct acc :=
  p.call (p.rd.below hb) ⟨hb.os, hb.tape, hb.output, hb.size, fun i hi _ _ => hb.block i hi⟩
theorem PS.facts (p : PS w0 W h g sb rb lo A c zs st cells At nt ct acc) (i : Nat) : W.cell? ⟨sb, i, none⟩ = cells[i]? ∧ W.frozen? ⟨sb, i, none⟩ = false := ⟨p.sp.cell i, p.sp.frozen i⟩
/-- A tag more. -/
theorem PS.app {At' : Option Addr} {ct' : Nat} {t : Tg} (p : PS w0 W h g sb rb lo A c zs st cells At nt ct acc) (k : App lo 97 2 W (.slice At nt ct) W' (.slice At' (nt + 1) ct') (nt + 1) (tgs (acc ++ [t]))) :
    PS w0 W' h g sb rb lo A c zs st cells At' (nt + 1) ct' (acc ++ [t]) := by
  have hown : ∀ q, (Value.slice At nt ct).ownBlock = some q → lo ≤ q := fun q hq => (p.own.lt q hq).1
  have hg := k.grown
  have e0 := p.hg
  have e1 := p.hh
  have e2 := p.hs
  have e3 := p.hr
  refine ⟨p.rd.keep hg (fun e => by have := hown g e; omega) (fun e => by have := hown h e; omega) (fun a ha e => by have := hown _ e; have := (p.hA a ha).1; omega), p.sp.grown hg (fun e => by have := hown sb e.symm; omega), p.rs.grown hg (fun e => by have := hown rb e.symm; omega), k.own, by simp [p.len], ?_, Nat.le_trans p.hlo hg.size, p.hg, p.hh, p.hs, p.hr, p.ne, p.hA⟩
  exact p.bel.trans (k.below (B := w0.heap.size) (by have := p.bel.size; omega) (fun q hq => by have := hown q hq; omega))
theorem PS.drew (p : PS w0 W h g sb rb lo A c zs st cells At nt ct acc) : PS w0 W.drew h g sb rb lo A c zs st cells At nt ct acc := p.below (below_drewN (Below.refl _ W) 1)
end

/-! The reader's methods, by what they give. -/
section
variable {A : Option Addr} {c h g : Nat} {zs : List Int} {s s' : RS}
theorem spEight' {v : Nat} (w : World) (x : SRd w h g A c zs s) (he : rEight zs s = (v, s')) : Calls Try.prog 78 #[.pointer (some ⟨h, 0, none⟩)] w (RPost (.int .u64 v) w h g A c zs s') := by
  have := spEight w x
  rwa [he] at this
theorem spRText' {v : ByteArray} (w : World) (x : SRd w h g A c zs s) (he : rText zs s = (v, s')) : Calls Try.prog 79 #[.pointer (some ⟨h, 0, none⟩)] w (RPost (.string v) w h g A c zs s') := by
  have := spRText w x
  rwa [he] at this
theorem spOne' {most v : Int} (w : World) (x : SRd w h g A c zs s) (he : rOne most zs s = (v, s')) : Calls Try.prog 80 #[.pointer (some ⟨h, 0, none⟩), .int .u8 most] w (RPost (.int .u8 v) w h g A c zs s') := by
  have := spOne most w x
  rwa [he] at this
theorem spShort' {most v : Nat} {m : Int} (hme : m = most) (hm : most ≤ 4611686018427387903) (w : World) (x : SRd w h g A c zs s) (he : rShort most zs s = (v, s')) : Calls Try.prog 81 #[.pointer (some ⟨h, 0, none⟩), .int .u64 m] w (RPost (.int .i64 v) w h g A c zs s') := by
  subst hme
  have := spShort most hm w x
  rwa [he] at this
end
theorem rShort_le {most : Nat} {zs : List Int} {s : RS} : (rShort most zs s).1 ≤ most := by
  unfold rShort
  split
  · simp
  · split
    · simp
    · simp only; omega
theorem rOne_rng {most : Int} {zs : List Int} (hz : Byt zs) (s : RS) : 0 ≤ (rOne most zs s).1 ∧ (rOne most zs s).1 ≤ 255 := by
  unfold rOne
  split
  · simp
  · have hb := rdFix_byt hz s.p s.e 1
    split
    · rename_i x hx
      rw [hx] at hb
      exact hb x (by simp)
    · simp
end Go.Proofs.Ytlamebbolioljaa
