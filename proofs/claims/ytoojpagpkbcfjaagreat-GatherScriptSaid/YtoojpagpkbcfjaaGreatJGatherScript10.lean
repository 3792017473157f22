/- Texts of the proof of GatherScriptSaid, joined: SoG SrA SrB. -/
import Derived.Test.YtoojpagpkbcfjaaGreatJGatherScript8
import Derived.Test.YtoojpagpkbcfjaaGreatJGatherScript9
import Derived.Deep.RegionWith
import Derived.Test.YtoojpagpkbcfjaaGreatJGatherScript1
import Derived.Deep.Cut
import Derived.Test.YtoojpagpkbcfjaaGreatJGatherScript4
import Derived.Test.YtoojpagpkbcfjaaGreatJGatherScript2
/- ref.Copy, ref.Order. -/
namespace Go.Proofs.YtoojpagpkbcfjaaGreat
open Go.RowKit

set_option maxRecDepth 100000 in
set_option maxHeartbeats 2000000 in
theorem rCopy {A : Option Addr} {c n B : Nat} (s : Sp) (w : World) (hf : RbT w B A s.tags) (hn : s.tags.length = n) (hB : B ≤ w.heap.size) (hnl : n ≤ 4398046511104) :
    Calls Tryz.prog 45 #[spV s A n c] w (CopyPost w s n A) := by
  have hb0 : Below w.heap.size w ((w.alloc (.cells (spC s A n c) 40)).alloc (.cells zspC 40)) := ((Below.refl _ w).alloc (Nat.le_refl _) _).alloc (by simp) _
  have hf1 := Rd.below hf (hb0.mono hB)
  have bk := (Bk.new w 40 (spC s A n c)).alloc (.cells zspC 40)
  have br := Bk.new (w.alloc (.cells (spC s A n c) 40)) 40 zspC
  rw [World.size_alloc] at br
  have hs1 : ((w.alloc (.cells (spC s A n c) 40)).alloc (.cells zspC 40)).heap.size = w.heap.size + 2 := by simp
  obtain ⟨w1, hw1⟩ : ∃ w1, (w.alloc (.cells (spC s A n c) 40)).alloc (.cells zspC 40) = w1 := ⟨_, rfl⟩
  rw [hw1] at hb0 hf1 bk br hs1
  have HW := Lib.hid hw1
  obtain ⟨g, hg⟩ : ∃ g, w.heap.size = g := ⟨_, rfl⟩
  rw [hg] at bk br
  have HG := Lib.hid hg
  have hg1 : g + 2 ≤ w1.heap.size := by omega
  have HN := Lib.hid hn
  have k10 : (w1.alloc (.cells #[] 93)).cell? ⟨g, 10, none⟩ = some (.slice A n c) := (bk.alloc _).cell 10
  have hBw : B ≤ w1.heap.size := by omega
  clear hw1 hg hn hf hs1
  go_enter Tryz.func45, Tryz.ntmps45
  go_upto_region 1 with fail
  rw [HW.out, HG.out]
  go_wp2_with (at_builtin; go_loud (refine wpList_appTg _ rfl (.tmp 3) (.tmp 5) rfl w1.heap.size _ 0 [] rfl (World.ownsRow_lit w1 #[] 0 (Nat.le_refl _) (by simp [maxLen]) rfl) B A n c s.tags rfl HN.out (Rd.alloc hf1 hBw _) (by omega) (by simp) ?_))
  intro A' c' w2 happ0 hne0
  have happ := happ0.fresh1
  clear happ0
  have hb2 := happ.below0
  have bk2 := bk.below hb2 bk.lt
  have br2 := br.below hb2 br.lt
  have hlo := happ.lo
  have hrd := Rd.of_own happ.own
  have hcap : n ≤ c' ∧ (A' = none → n = 0 ∧ c' = 0) := by
    rcases happ.own.2 with ⟨h1, h2⟩ | ⟨q, cap, cur, h1, _, _, h3, _⟩
    · injection h1 with _ _ h4
      exact ⟨by omega, fun _ => ⟨h2, h4⟩⟩
    · injection h1 with h4 _ h5
      subst h5
      exact ⟨h3, fun h => by rw [h] at h4; cases h4⟩
  have k10b : w2.cell? ⟨g, 10, none⟩ = some (.slice A n c) := bk2.cell 10
  have f10b : w2.frozen? ⟨g, 10, none⟩ = false := bk2.frozen 10
  have bk3 := bk2.set 10 (.slice A' n c')
  have br3 := br2.far (p := ⟨g, 10, none⟩) (by show g + 1 ≠ g; omega) (.slice A' n c')
  have hb3 := (hb0.trans (hb2.mono hb0.size)).setCell (p := ⟨g, 10, none⟩) (by show w.heap.size ≤ g; rw [HG.out]; exact Nat.le_refl _) (.slice A' n c')
  have hrd3 := hrd.grownS (grown_setCell w2 g 10 (.slice A' n c')) (fun a ha e => by
    have h1 := (hlo a ha).1
    have h2 := Option.some.inj e
    omega)
  have bk3' : Bk (w2.setCell ⟨g, 10, none⟩ (.slice A' n c')) g 40 (spC s A' n c') := bk3
  obtain ⟨w3, hw3⟩ : ∃ w3, w2.setCell ⟨g, 10, none⟩ (.slice A' n c') = w3 := ⟨_, rfl⟩
  rw [hw3] at bk3' br3 hb3 hrd3
  have HW3 := Lib.hid hw3
  clear hw3 bk3 bk2 br2 hb2 hrd happ hf1 bk br
  go_wp2_with (first
    | (refine wpList_load_row rfl 40 (.tmp 1) rfl g rfl 40 (spC s A' n c') (0, 0) _ (by rw [HW3.out]; exact bk3') Tryz.underlying40 rfl (by rfl) ?_; rw [HW3.out])
    | (refine wpList_store_row rfl 40 (.tmp 2) (.tmp 8) rfl (g + 1) (spC s A' n c') rfl rfl 40 zspC br3 (by rfl) rfl (spC_one s A' n c') ?_))
  try simp only [Exit.inBlock, Exit.then]
  refine bodyPost_ret (results_cell_row rfl _ _ (g + 1) 40 (spC s A' n c') (0, 0) _ rfl (br3.row _) Tryz.underlying40 rfl (by rfl)) rfl ?_
  refine ⟨A', c', rfl, ?_, ?_, hcap.1, ?_, ?_⟩
  · refine hrd3.grownS (only_row (g + 1) _) (fun a ha e => ?_)
    have h1 := (hlo a ha).1
    have h2 := Option.some.inj e
    omega
  · refine hb3.trans ?_
    exact ⟨rfl, rfl, rfl, by simp [World.setRow], fun i hi => by
      have := HG.out
      have := hb3.size
      simp [World.setRow, Array.getElem?_modify]
      intro e
      omega⟩
  · intro a ha
    have h1 := (hlo a ha).1
    have := hb0.size
    omega
  · intro h
    exact (hne0 h).elim


end Go.Proofs.YtoojpagpkbcfjaaGreat


/- Spans, the document's answer: plain, Text, Check. -/
namespace Go.Proofs.YtoojpagpkbcfjaaGreat
open Go.RowKit

set_option maxHeartbeats 400000 in
theorem rPlain (w : World) (s : ByteArray) (hm : s.size ≤ 1000000) :
    Calls Tryz.prog 56 #[.string s] w fun e w' => e = .returned (.bool (plainB s)) ∧ w' = w := by
  obtain ⟨q, hq⟩ : ∃ q, plainB s = q := ⟨_, rfl⟩
  rw [hq]
  have HQ := Lib.hid hq
  clear hq
  go_enter Tryz.func56, Tryz.ntmps56
  go_wp2
  go_loop [3] (fun iv_ => ∃ k : Nat, k ≤ s.size ∧ iv_ = .int .i64 k ∧ ((nums s).take k).all (fun x => decide (32 ≤ x) && decide (x ≤ 126)) = true) (fun i => s.size - (intOf i).toNat)
  case atStart => exact ⟨0, by omega, rfl, rfl⟩
  case round =>
    obtain ⟨k, hk, rfl, hall⟩ := hrel
    have HA := Lib.hid hall
    clear hall
    by_cases hlt : k < s.size
    · have hlt' : (k : Int) < (s.size : Int) := by omega
      obtain ⟨z, hz⟩ : ∃ z : Int, z = ((s[k]'hlt).toNat : Int) := ⟨_, rfl⟩
      have hzz : ((s[k]'hlt).toNat : Int) = z := hz.symm
      have HZ : Hid ((nums s)[k]? = some z) := by rw [hz]; exact nums_get hlt
      clear hz
      by_cases h1 : z < 32
      · go_wp2
        go_ret
        have : q = false := by
          rw [← HQ.out, plainB, List.all_eq_false]
          exact ⟨z, List.mem_of_getElem? HZ.out, by simp; omega⟩
        exact ⟨by rw [this]; rfl, rfl⟩
      have h1' : decide (z < 32) = false := by simp; omega
      by_cases h2 : 126 < z
      · go_wp2
        go_ret
        have : q = false := by
          rw [← HQ.out, plainB, List.all_eq_false]
          exact ⟨z, List.mem_of_getElem? HZ.out, by simp; omega⟩
        exact ⟨by rw [this]; rfl, rfl⟩
      have h2' : decide (126 < z) = false := by simp; omega
      go_wp2
      go_round
      case rel => exact ⟨k + 1, by omega, by go_num, by rw [take_snoc HZ.out, List.all_append, HA.out]; simp; omega⟩
      case measure => simp [intOf]; omega
    · have hlt' : decide ((k : Int) < (s.size : Int)) = false := by simp; omega
      go_wp2
      go_ret
      have : q = true := by
        rw [← HQ.out, plainB]
        have h1 := HA.out
        rwa [List.take_of_length_le (by rw [nums_len]; omega)] at h1
      exact ⟨by rw [this]; rfl, rfl⟩

/-- The head's ways, in the order of the document's answer. -/
def HeadWays (s : Sp) : Prop :=
  (headB s = false ∧ ((s.hi = 0 ∧ s.lo = 0) ∨ ((s.hi ≠ 0 ∨ s.lo ≠ 0) ∧ (s.id = 0 ∨ s.id ≠ 0 ∧ (s.service.size = 0 ∨ 0 < s.service.size ∧ (s.name.size = 0 ∨ 0 < s.name.size ∧ (plainB s.service = false ∨ plainB s.service = true ∧ (plainB s.name = false ∨ plainB s.name = true ∧
    (s.kind < 0 ∨ 0 ≤ s.kind ∧ (5 < s.kind ∨ s.kind ≤ 5 ∧ (s.start < 0 ∨ 0 ≤ s.start ∧ (s.length < 0 ∨ 0 ≤ s.length ∧ (4611686018427387903 < s.start ∨ s.start ≤ 4611686018427387903 ∧ 4611686018427387903 - s.start < s.length))))))))))))) ∨
  (headB s = true ∧ (s.hi ≠ 0 ∨ s.lo ≠ 0) ∧ s.id ≠ 0 ∧ 0 < s.service.size ∧ 0 < s.name.size ∧ plainB s.service = true ∧ plainB s.name = true ∧ 0 ≤ s.kind ∧ s.kind ≤ 5 ∧ 0 ≤ s.start ∧ 0 ≤ s.length ∧ s.start ≤ 4611686018427387903 ∧ s.length ≤ 4611686018427387903 - s.start)
theorem headWays (s : Sp) (h1 : s.service.size ≤ 128) (h2 : s.name.size ≤ 128) : HeadWays s := by
  have e1 : nameB s.service = (decide (0 < s.service.size) && plainB s.service) := by simp [nameB, txtB, h1]
  have e2 : nameB s.name = (decide (0 < s.name.size) && plainB s.name) := by simp [nameB, txtB, h2]
  unfold HeadWays
  cases hh : headB s with
  | true =>
    rw [headB, e1, e2] at hh
    simp only [Bool.and_eq_true, Bool.or_eq_true, decide_eq_true_eq, ne_eq] at hh
    obtain ⟨⟨⟨⟨⟨⟨⟨⟨⟨a0, a1⟩, a2, a3⟩, a4, a5⟩, a6⟩, a7⟩, a8⟩, a9⟩, a10⟩, a11⟩ := hh
    exact .inr ⟨rfl, a0, a1, a2, a4, a3, a5, a6, a7, a8, a9, a10, a11⟩
  | false =>
    refine .inl ⟨rfl, ?_⟩
    by_cases a0 : s.hi = 0 ∧ s.lo = 0
    · exact .inl a0
    refine .inr ⟨by omega, ?_⟩
    by_cases a1 : s.id = 0
    · exact .inl a1
    refine .inr ⟨a1, ?_⟩
    by_cases a2 : s.service.size = 0
    · exact .inl a2
    refine .inr ⟨by omega, ?_⟩
    by_cases a3 : s.name.size = 0
    · exact .inl a3
    refine .inr ⟨by omega, ?_⟩
    cases a4 : plainB s.service with
    | false => exact .inl rfl
    | true =>
    refine .inr ⟨rfl, ?_⟩
    cases a5 : plainB s.name with
    | false => exact .inl rfl
    | true =>
    refine .inr ⟨rfl, ?_⟩
    by_cases a6 : s.kind < 0
    · exact .inl a6
    refine .inr ⟨by omega, ?_⟩
    by_cases a7 : 5 < s.kind
    · exact .inl a7
    refine .inr ⟨by omega, ?_⟩
    by_cases a8 : s.start < 0
    · exact .inl a8
    refine .inr ⟨by omega, ?_⟩
    by_cases a9 : s.length < 0
    · exact .inl a9
    refine .inr ⟨by omega, ?_⟩
    by_cases a10 : 4611686018427387903 < s.start
    · exact .inl a10
    refine .inr ⟨by omega, ?_⟩
    by_cases a11 : 4611686018427387903 - s.start < s.length
    · exact a11
    rw [headB, e1, e2] at hh
    have : (decide (s.hi ≠ 0) || decide (s.lo ≠ 0)) = true := by simp; omega
    rw [this, a4, a5] at hh
    simp at hh
    omega
theorem tagsOk_false {l : List Tg} {j n : Nat} (h : tagOk l j = false) (hj : j < n) : tagsOk l n = false := by
  rw [tagsOk, List.all_eq_false]
  exact ⟨j, List.mem_range.2 hj, by simp [h]⟩
end Go.Proofs.YtoojpagpkbcfjaaGreat


/- Spans, the document's answer: Check. -/
namespace Go.Proofs.YtoojpagpkbcfjaaGreat
open Go.RowKit

set_option maxRecDepth 100000 in
set_option maxHeartbeats 8000000 in
/-- Check. -/
theorem rSpCheck {A : Option Addr} {c n B : Nat} (s : Sp) (w : World) (hf : RbT w B A s.tags) (hn : s.tags.length = n) (hB : B ≤ w.heap.size) (hnl : n ≤ 9223372036854775807) :
    Calls Tryz.prog 43 #[spV s A n c] w fun e w' => e = .returned (.int .i64 (spChk s)) ∧ Below w.heap.size w w' := by
  have hb0 : Below w.heap.size w (w.alloc (.cells (spC s A n c) 40)) := (Below.refl _ w).alloc (Nat.le_refl _) _
  have hf1 := Rd.alloc hf hB (.cells (spC s A n c) 40)
  have bk := Bk.new w 40 (spC s A n c)
  obtain ⟨w1, hw1⟩ : ∃ w1, w.alloc (.cells (spC s A n c) 40) = w1 := ⟨_, rfl⟩
  rw [hw1] at hb0 hf1 bk
  have HW := Lib.hid hw1
  obtain ⟨g, hg⟩ : ∃ g, w.heap.size = g := ⟨_, rfl⟩
  rw [hg] at bk
  have HG := Lib.hid hg
  obtain ⟨q, hq⟩ : ∃ q, spChk s = q := ⟨_, rfl⟩
  rw [hq]
  have HQ := Lib.hid hq
  have HN := Lib.hid hn
  have HB0 := Lib.hid hb0
  have HF1 := Lib.hid hf1
  have k0 : w1.cell? ⟨g, 0, none⟩ = some (.int .u64 s.hi) := bk.cell 0
  have k1 : w1.cell? ⟨g, 1, none⟩ = some (.int .u64 s.lo) := bk.cell 1
  have k2 : w1.cell? ⟨g, 2, none⟩ = some (.int .u64 s.id) := bk.cell 2
  have k4 : w1.cell? ⟨g, 4, none⟩ = some (.string s.service) := bk.cell 4
  have k5 : w1.cell? ⟨g, 5, none⟩ = some (.string s.name) := bk.cell 5
  have k6 : w1.cell? ⟨g, 6, none⟩ = some (.int .i64 s.kind) := bk.cell 6
  have k7 : w1.cell? ⟨g, 7, none⟩ = some (.int .i64 s.start) := bk.cell 7
  have k8 : w1.cell? ⟨g, 8, none⟩ = some (.int .i64 s.length) := bk.cell 8
  have k10 : w1.cell? ⟨g, 10, none⟩ = some (.slice A n c) := bk.cell 10
  obtain ⟨h0, hh0⟩ : ∃ h0, (decide (128 < s.service.size) || decide (128 < s.name.size) || decide (16 < n)) = h0 := ⟨_, rfl⟩
  have hlb : longB s = (h0 || s.tags.any tgLong) := by rw [longB, hn, hh0]
  have HLB := Lib.hid hlb
  have HH0 := Lib.hid hh0
  have HKK := Lib.hid (And.intro k0 (And.intro k1 (And.intro k2 (And.intro k4 (And.intro k5 (And.intro k6 (And.intro k7 k8)))))))
  have hsplit : (128 < s.service.size ∧ h0 = true) ∨ (s.service.size ≤ 128 ∧ 128 < s.name.size ∧ h0 = true) ∨ (s.service.size ≤ 128 ∧ s.name.size ≤ 128 ∧ 16 < n ∧ h0 = true) ∨ (s.service.size ≤ 128 ∧ s.name.size ≤ 128 ∧ n ≤ 16 ∧ h0 = false) := by
    rw [← hh0]
    by_cases a1 : 128 < s.service.size
    · exact .inl ⟨a1, by simp [a1]⟩
    by_cases a2 : 128 < s.name.size
    · exact .inr (.inl ⟨by omega, a2, by simp [a2]⟩)
    by_cases a3 : 16 < n
    · exact .inr (.inr (.inl ⟨by omega, by omega, a3, by simp [a3]⟩))
    · exact .inr (.inr (.inr ⟨by omega, by omega, by omega, by simp; omega⟩))
  clear hw1 hg hq hn hb0 hf1 hf bk hh0 hlb k0 k1 k2 k6 k7 k8
  rcases hsplit with ⟨a1, a0⟩ | ⟨a1, a2, a0⟩ | ⟨a1, a2, a3, a0⟩ | ⟨a1, a2, a3, a0⟩
  case inr.inr.inr =>
    subst a0
    have b1 : decide ((128 : Int) < (s.service.size : Int)) = false := by simp; omega
    have b2 : decide ((128 : Int) < (s.name.size : Int)) = false := by simp; omega
    have b3 : decide ((16 : Int) < (n : Int)) = false := by simp; omega
    go_enter Tryz.func43, Tryz.ntmps43
    go_upto_region 1 with fail
    rw [HW.out, HG.out]
    go_wp2
    go_loop [3, 4] (fun lv_ iv_ => ∃ j : Nat, j ≤ n ∧ iv_ = .int .i64 j ∧ lv_ = .bool ((s.tags.take j).any tgLong)) (fun _ i => n - (intOf i).toNat)
    case atStart => exact ⟨0, by omega, rfl, rfl⟩
    case round =>
      obtain ⟨j, hj, rfl, rfl⟩ := hrel
      obtain ⟨f, hf⟩ : ∃ f, (s.tags.take j).any tgLong = f := ⟨_, rfl⟩
      rw [hf]
      have HF := Lib.hid hf
      clear hf
      by_cases hlt : j < n
      · have hlt' : (j : Int) < (n : Int) := by omega
        obtain ⟨x, hx⟩ : ∃ x, s.tags[j]? = some x := ⟨_, List.getElem?_eq_getElem (by rw [HN.out]; exact hlt)⟩
        obtain ⟨b, o, rfl, hbb, c1, c2⟩ := RbT.get HF1.out hx
        have hst : (s.tags.take (j + 1)).any tgLong = (f || tgLong x) := by rw [take_snoc hx, List.any_append, HF.out]; simp
        clear hx
        cases f with
        | true =>
          have h9 : (s.tags.take (j + 1)).any tgLong = true := by rw [hst]; rfl
          have HST := Lib.hid h9
          clear hst h9
          go_wp2
          go_round
          case rel => exact ⟨j + 1, by omega, by go_num, by rw [HST.out]⟩
          case measure => simp [intOf]; omega
        | false =>
          by_cases e1 : 128 < x.key.size
          · have e1' : (128 : Int) < (x.key.size : Int) := by omega
            have h9 : (s.tags.take (j + 1)).any tgLong = true := by rw [hst, tgLong, decide_eq_true e1]; simp
            have HST := Lib.hid h9
            clear hst h9
            go_wp2
            go_round
            case rel => exact ⟨j + 1, by omega, by go_num, by rw [HST.out]⟩
            case measure => simp [intOf]; omega
          have e1' : decide ((128 : Int) < (x.key.size : Int)) = false := by simp; omega
          by_cases e2 : 128 < x.val.size
          · have e2' : (128 : Int) < (x.val.size : Int) := by omega
            have h9 : (s.tags.take (j + 1)).any tgLong = true := by rw [hst, tgLong, decide_eq_true e2]; simp
            have HST := Lib.hid h9
            clear hst h9
            go_wp2
            go_round
            case rel => exact ⟨j + 1, by omega, by go_num, by rw [HST.out]⟩
            case measure => simp [intOf]; omega
          have e2' : decide ((128 : Int) < (x.val.size : Int)) = false := by simp; omega
          have h9 : (s.tags.take (j + 1)).any tgLong = false := by rw [hst, tgLong, decide_eq_false e1, decide_eq_false e2]; rfl
          have HST := Lib.hid h9
          clear hst h9
          go_wp2
          go_round
          case rel => exact ⟨j + 1, by omega, by go_num, by rw [HST.out]⟩
          case measure => simp [intOf]; omega
      · have hlt' : decide ((j : Int) < (n : Int)) = false := by simp; omega
        obtain rfl : j = n := by omega
        have hf := HF.out
        rw [List.take_of_length_le (by rw [HN.out]; omega)] at hf
        have hlb : longB s = f := by rw [HLB.out, hf]; rfl
        clear HF
        cases f with
        | true =>
          have hq3 : q = 3 := by rw [← HQ.out, spChk, if_pos hlb]
          have HQ3 := Lib.hid hq3
          clear hlb hq3 hf
          go_wp2
          go_ret
          exact ⟨by rw [HQ3.out]; rfl, HB0.out⟩
        | false =>
          obtain ⟨k0, k1, k2, k4', k5', k6, k7, k8⟩ := HKK.out
          have hq2 : q = if headB s && tagsOk s.tags j then 0 else 2 := by rw [← HQ.out, spChk, if_neg (by rw [hlb]; simp), HN.out]
          have HQ2 := Lib.hid hq2
          have hw := headWays s a1 a2
          clear hlb hq2
          rcases hw with ⟨hh, hw⟩ | ⟨hh, a0, a1', a2', a3', a4, a5, a6, a7, a8, a9, a10, a11⟩
          · have hq2 : q = 2 := by rw [HQ2.out, hh]; rfl
            have HQ3 := Lib.hid hq2
            clear hh hq2 HQ2 hf
            rcases hw with ⟨a0, a0'⟩ | ⟨a0, a1' | ⟨a1', a2' | ⟨a2', a3' | ⟨a3', a4 | ⟨a4, a5 | ⟨a5, a6 | ⟨a6, a7 | ⟨a7, a8 | ⟨a8, a9 | ⟨a9, a10 | ⟨a10, a11⟩⟩⟩⟩⟩⟩⟩⟩⟩⟩⟩
            all_goals first
              | (have d1 : ((s.id : Int) == 0) = false := by rw [beq_eq_false_iff_ne]; omega)
              | (have d1 : ((s.id : Int) == 0) = true := by rw [a1']; rfl)
              | skip
            all_goals first
              | (have d2 : (s.service.toList == []) = false := by rw [str_empty, decide_eq_false_iff_not]; omega)
              | (have d2 : (s.service.toList == []) = true := by rw [str_empty, decide_eq_true_iff]; omega)
              | skip
            all_goals first
              | (have d3 : (s.name.toList == []) = false := by rw [str_empty, decide_eq_false_iff_not]; omega)
              | (have d3 : (s.name.toList == []) = true := by rw [str_empty, decide_eq_true_iff]; omega)
              | skip
            all_goals
              go_wp2_with (go_at_call 56; refine (rPlain _ _ (by omega)).mono ?_; rintro e w' ⟨rfl, hw⟩; rw [hw]; clear hw w'; first | rw [a4] | rw [a5])
              all_goals go_ret
              all_goals exact ⟨by rw [HQ3.out]; rfl, HB0.out⟩
          · have hq2 : q = if tagsOk s.tags j = true then 0 else 2 := by rw [HQ2.out, hh]; rfl
            have HQ3 := Lib.hid hq2
            have hlg : ∀ x ∈ s.tags, x.key.size ≤ 128 ∧ x.val.size ≤ 128 := fun x hx => by
              have := List.any_eq_false.1 hf x hx
              simp only [tgLong, Bool.or_eq_true, decide_eq_true_eq, not_or] at this
              omega
            have HLG := Lib.hid hlg
            have d1 : ((s.id : Int) == 0) = false := by rw [beq_eq_false_iff_ne]; omega
            have d2 : (s.service.toList == []) = false := by rw [str_empty, decide_eq_false_iff_not]; omega
            have d3 : (s.name.toList == []) = false := by rw [str_empty, decide_eq_false_iff_not]; omega
            clear hh hq2 HQ2 hlg hf
            go_wp2_with (go_at_call 56; refine (rPlain _ _ (by omega)).mono ?_; rintro e w' ⟨rfl, hw⟩; rw [hw]; clear hw w'; first | rw [a4] | rw [a5])
            all_goals
              clear k0 k1 k2 k4 k5 k6 k7 k8 k4' k5' d1 d2 d3 a0 a1' a2' a3' a4 a5 a6 a7 a8 a9 a10 a11
              go_loopw [5] (fun iv_ wr => ∃ i : Nat, i ≤ j ∧ iv_ = .int .i64 i ∧ tagsOk s.tags i = true ∧ ∃ d, wr = w1.drewN d) (fun i _ => j - (intOf i).toNat)
              case atStart => exact ⟨0, by omega, rfl, rfl, 0, rfl⟩
              case round =>
                obtain ⟨i, hi, rfl, hall, d, rfl⟩ := hrel
                have HA := Lib.hid hall
                clear hall
                have k10' : (w1.drewN d).cell? ⟨g, 10, none⟩ = some (.slice A j c) := k10
                by_cases hlt : i < j
                · have hlt' : (i : Int) < (j : Int) := by omega
                  obtain ⟨x, hx⟩ : ∃ x, s.tags[i]? = some x := ⟨_, List.getElem?_eq_getElem (by rw [HN.out]; exact hlt)⟩
                  obtain ⟨b, o, rfl, hbb, c1, c2⟩ := RbT.get HF1.out hx
                  have c1' : (w1.drewN d).cell? ⟨b, o + i * 2, none⟩ = some (.string x.key) := c1
                  have c2' : (w1.drewN d).cell? ⟨b, o + i * 2 + 1, none⟩ = some (.string x.val) := c2
                  go_wp2_with fail
                  have hlg := HLG.out x (List.mem_of_getElem? hx)
                  have hat := tagOk_at hx
                  have hsucc := tagsOk_succ s.tags i
                  rw [HA.out, hat] at hsucc
                  have hbad : tagOk s.tags i = false → q = 2 := fun h => by rw [HQ3.out, tagsOk_false h hlt]; rfl
                  rw [hat] at hbad
                  have en : nameB x.key = (decide (0 < x.key.size) && plainB x.key) := by simp [nameB, txtB, hlg.1]
                  have et : txtB x.val = plainB x.val := by simp [txtB, hlg.2]
                  rw [en, et] at hsucc hbad
                  clear hat en et
                  have hlg1 := hlg.1
                  have hlg2 := hlg.2
                  by_cases z0 : x.key.size = 0
                  · have d2 : (x.key.toList == []) = true := by rw [str_empty, decide_eq_true_iff]; omega
                    have hq2 := hbad (by rw [decide_eq_false (by omega)]; rfl)
                    have HQ4 := Lib.hid hq2
                    clear hq2 hbad hsucc hx hlg z0
                    go_quiet (fail)
                    go_wp2
                    go_ret
                    exact ⟨by rw [HQ4.out]; rfl, below_drewN (below_drewN HB0.out d) _⟩
                  have d2 : (x.key.toList == []) = false := by rw [str_empty, decide_eq_false_iff_not]; omega
                  rw [decide_eq_true (show 0 < x.key.size by omega), Bool.true_and] at hsucc hbad
                  obtain ⟨n1, hn1⟩ : ∃ n1, plainB x.key = n1 := ⟨_, rfl⟩
                  have cN : ∀ W', Calls Tryz.prog 56 #[.string x.key] W' fun e w' => e = .returned (.bool n1) ∧ w' = W' := by intro W'; have := rPlain W' x.key (by omega); rwa [hn1] at this
                  obtain ⟨n2, hn2⟩ : ∃ n2, plainB x.val = n2 := ⟨_, rfl⟩
                  have cT : ∀ W', Calls Tryz.prog 56 #[.string x.val] W' fun e w' => e = .returned (.bool n2) ∧ w' = W' := by intro W'; have := rPlain W' x.val (by omega); rwa [hn2] at this
                  rw [hn1, hn2] at hsucc hbad
                  clear hn1 hn2
                  cases n1 with
                  | false =>
                    have hq2 := hbad rfl
                    have HQ4 := Lib.hid hq2
                    clear hq2 hbad hsucc hx hlg z0
                    go_quiet ((go_at_call_of 56 (Value.string x.key); go_loud (exact (cN _).mono (fun _ _ h => ⟨h.1, _, h.2⟩))))
                    go_wp2
                    go_ret
                    exact ⟨by rw [HQ4.out]; rfl, below_drewN (below_drewN HB0.out d) _⟩
                  | true =>
                  cases n2 with
                  | false =>
                    have hq2 := hbad rfl
                    have HQ4 := Lib.hid hq2
                    clear hq2 hbad hsucc hx hlg z0
                    go_quiet (first
                      | (go_at_call_of 56 (Value.string x.key); go_loud (exact (cN _).mono (fun _ _ h => ⟨h.1, _, h.2⟩)))
                      | (go_at_call_of 56 (Value.string x.val); go_loud (exact (cT _).mono (fun _ _ h => ⟨h.1, _, h.2⟩))))
                    go_wp2
                    go_ret
                    exact ⟨by rw [HQ4.out]; rfl, below_drewN (below_drewN HB0.out d) _⟩
                  | true =>
                  cases i with
                  | zero =>
                    have HST := Lib.hid (show tagsOk s.tags (0 + 1) = true from hsucc)
                    have z1 : (0 : Int) < (j : Int) := by omega
                    have z2 : 0 < j := by omega
                    have c3 : w1.cell? ⟨b, o, none⟩ = some (.string x.key) := by simpa using c1
                    have c4 : w1.cell? ⟨b, o + 1, none⟩ = some (.string x.val) := by simpa using c2
                    have c3' : (w1.drewN d).cell? ⟨b, o, none⟩ = some (.string x.key) := c3
                    have c4' : (w1.drewN d).cell? ⟨b, o + 1, none⟩ = some (.string x.val) := c4
                    clear hbad hsucc hx hlg z0
                    go_quiet (first
                      | (go_at_call_of 56 (Value.string x.key); go_loud (exact (cN _).mono (fun _ _ h => ⟨h.1, _, h.2⟩)))
                      | (go_at_call_of 56 (Value.string x.val); go_loud (exact (cT _).mono (fun _ _ h => ⟨h.1, _, h.2⟩))))
                    go_wp2
                    go_roundw
                    case rel => exact ⟨0 + 1, by omega, by go_num, HST.out, _, rfl⟩
                    case measure => simp [intOf]; omega
                  | succ k =>
                    obtain ⟨u, hu⟩ : ∃ u, s.tags[k]? = some u := ⟨_, List.getElem?_eq_getElem (by rw [HN.out]; omega)⟩
                    obtain ⟨b', o', e', _, p1, _⟩ := RbT.get HF1.out hu
                    cases e'
                    have p1' : (w1.drewN d).cell? ⟨b, o + k * 2, none⟩ = some (.string u.key) := p1
                    have e1 : (k : Int) + 1 - 1 = (k : Int) := by omega
                    have e2 : ((k : Int) + 1 == 0) = false := by rw [beq_eq_false_iff_ne]; omega
                    have e3 : (0 : Int) < (k : Int) + 1 := by omega
                    have hkn : (k : Int) < (j : Int) := by omega
                    have hkn' : k < j := by omega
                    rw [show k + 1 - 1 = k from rfl, hu] at hsucc hbad
                    have hway := strLt_ways x.key u.key
                    clear hu hlg z0 hx
                    rcases hway with ⟨l1, -⟩ | ⟨l1, l2, -⟩ | ⟨l1, l2, -⟩
                    · have l2 : strLt u.key x.key = false := by
                        cases h2 : strLt u.key x.key with
                        | false => rfl
                        | true =>
                          rw [stw_ltb] at l1 h2
                          have := stw_tr _ _ _ l1 h2
                          rw [stw_irr] at this
                          cases this
                      have hq2 := hbad (by simp [l2])
                      have l3 : (x.key.toList == u.key.toList) = false := by
                        rw [strEq_of', decide_eq_false_iff_not]
                        intro e
                        rw [e] at l1
                        rw [e, l1] at l2
                        cases l2
                      unfold strLt at l1
                      clear l2
                      have HQ4 := Lib.hid hq2
                      clear hq2 hbad hsucc
                      go_quiet (first
                        | (go_at_call_of 56 (Value.string x.key); go_loud (exact (cN _).mono (fun _ _ h => ⟨h.1, _, h.2⟩)))
                        | (go_at_call_of 56 (Value.string x.val); go_loud (exact (cT _).mono (fun _ _ h => ⟨h.1, _, h.2⟩))))
                      go_wp2
                      go_ret
                      exact ⟨by rw [HQ4.out]; rfl, below_drewN (below_drewN HB0.out d) _⟩
                    · have l3 : (x.key.toList == u.key.toList) = false := by
                        rw [strEq_of', decide_eq_false_iff_not]
                        intro e
                        rw [e] at l1 l2
                        rw [l1] at l2
                        cases l2
                      have HST := Lib.hid (show tagsOk s.tags (k + 1 + 1) = true by rw [hsucc]; simp [l2])
                      unfold strLt at l1
                      clear hbad hsucc l2
                      go_quiet (first
                        | (go_at_call_of 56 (Value.string x.key); go_loud (exact (cN _).mono (fun _ _ h => ⟨h.1, _, h.2⟩)))
                        | (go_at_call_of 56 (Value.string x.val); go_loud (exact (cT _).mono (fun _ _ h => ⟨h.1, _, h.2⟩))))
                      go_wp2
                      go_roundw
                      case rel => exact ⟨k + 1 + 1, by omega, by go_num, HST.out, _, rfl⟩
                      case measure => simp [intOf]; omega
                    · have hq2 := hbad (by simp [l2])
                      have l3 : (x.key.toList == u.key.toList) = true := by
                        rw [strEq_of', decide_eq_true_iff]
                        rw [stw_ltb] at l1 l2
                        exact nums_inj (stw_tri _ _ l1 l2)
                      unfold strLt at l1
                      clear l2
                      have HQ4 := Lib.hid hq2
                      clear hq2 hbad hsucc
                      go_quiet (first
                        | (go_at_call_of 56 (Value.string x.key); go_loud (exact (cN _).mono (fun _ _ h => ⟨h.1, _, h.2⟩)))
                        | (go_at_call_of 56 (Value.string x.val); go_loud (exact (cT _).mono (fun _ _ h => ⟨h.1, _, h.2⟩))))
                      go_wp2
                      go_ret
                      exact ⟨by rw [HQ4.out]; rfl, below_drewN (below_drewN HB0.out d) _⟩
                · have hlt' : decide ((i : Int) < (j : Int)) = false := by simp; omega
                  obtain rfl : i = j := by omega
                  go_wp2
                  go_ret
                  exact ⟨by rw [HQ3.out, if_pos HA.out]; rfl, below_drewN HB0.out _⟩
  all_goals
    subst a0
    have hq3 : q = 3 := by rw [← HQ.out, spChk, if_pos (by rw [HLB.out]; rfl)]
    first
      | (have e1 : (128 : Int) < (s.service.size : Int) := by omega)
      | (have e1 : decide ((128 : Int) < (s.service.size : Int)) = false := by simp; omega)
    first
      | (have e2 : (128 : Int) < (s.name.size : Int) := by omega)
      | (have e2 : decide ((128 : Int) < (s.name.size : Int)) = false := by simp; omega)
      | skip
    first
      | (have e3 : (16 : Int) < (n : Int) := by omega)
      | skip
    have HQ3 := Lib.hid hq3
    clear hq3
    go_enter Tryz.func43, Tryz.ntmps43
    go_upto_region 1 with fail
    rw [HW.out, HG.out]
    go_wp2
    go_loop [3, 4] (fun lv_ iv_ => ∃ j : Nat, j ≤ n ∧ iv_ = .int .i64 j ∧ lv_ = .bool true) (fun _ i => n - (intOf i).toNat)
    case atStart => exact ⟨0, by omega, rfl, rfl⟩
    case round =>
      obtain ⟨j, hj, rfl, rfl⟩ := hrel
      by_cases hlt : j < n
      · have hlt' : (j : Int) < (n : Int) := by omega
        go_wp2
        go_round
        case rel => exact ⟨j + 1, by omega, by go_num, rfl⟩
        case measure => simp [intOf]; omega
      · have hlt' : decide ((j : Int) < (n : Int)) = false := by simp; omega
        go_wp2
        go_ret
        exact ⟨by rw [HQ3.out]; rfl, HB0.out⟩
end Go.Proofs.YtoojpagpkbcfjaaGreat

