/- Spans: Check of a span whose head is not right; Check of any span. -/
import Derived.Test.YthaiplhjekkooaaSpK
namespace Go.Proofs.Ythaiplhjekkooaa
open Go.RowKit

set_option maxRecDepth 100000 in
set_option maxHeartbeats 8000000 in
/-- Check of a span that is not too long and whose head is not right. -/
theorem spCheck0 {A : Option Addr} {c n B : Nat} (s : Sp) (w : World) (hf : RbT w B A s.tags) (hn : s.tags.length = n) (hB : B ≤ w.heap.size) (hnl : n ≤ 9223372036854775807) (hlong : longB s = false) (hhead : headB s = false) :
    Calls Try.prog 34 #[spV s A n c] w fun e w' => e = .returned (.int .i64 2) ∧ Below w.heap.size w w' := by
  have hb0 : Below w.heap.size w (w.alloc (.cells (spC s A n c) 43)) := (Below.refl _ w).alloc (Nat.le_refl _) _
  have hf1 := Rd.alloc hf hB (.cells (spC s A n c) 43)
  have bk := Bk.new w 43 (spC s A n c)
  have hs1 : (w.alloc (.cells (spC s A n c) 43)).heap.size = w.heap.size + 1 := by simp
  obtain ⟨w1, hw1⟩ : ∃ w1, w.alloc (.cells (spC s A n c) 43) = w1 := ⟨_, rfl⟩
  rw [hw1] at hb0 hf1 bk hs1
  have HW := Lib.hid hw1
  have hc := spLong (c := c) s w1 hf1 hn (by omega) hnl
  rw [hlong] at hc
  have HC := Lib.hid hc
  have HN := Lib.hid hn
  clear hw1 hc hn hlong
  have hcase : (s.hi = 0 ∧ s.lo = 0) ∨ ((s.hi ≠ 0 ∨ s.lo ≠ 0) ∧ (s.id = 0 ∨ s.id ≠ 0 ∧ (nameB s.service = false ∨ nameB s.service = true ∧ (nameB s.name = false ∨ nameB s.name = true ∧ (decide (0 ≤ s.kind) = false ∨ 0 ≤ s.kind ∧ (decide (s.kind ≤ 5) = false ∨ s.kind ≤ 5 ∧
      (decide (0 ≤ s.start) = false ∨ 0 ≤ s.start ∧ (decide (0 ≤ s.length) = false ∨ 0 ≤ s.length ∧ (decide (s.start ≤ 4611686018427387903) = false ∨ s.start ≤ 4611686018427387903 ∧ decide (s.length ≤ 4611686018427387903 - s.start) = false))))))))) := by
    by_cases a0 : s.hi = 0 ∧ s.lo = 0
    · exact .inl a0
    refine .inr ⟨by omega, ?_⟩
    by_cases a1 : s.id = 0
    · exact .inl a1
    refine .inr ⟨a1, ?_⟩
    cases a2 : nameB s.service with
    | false => exact .inl rfl
    | true =>
    refine .inr ⟨rfl, ?_⟩
    cases a3 : nameB s.name with
    | false => exact .inl rfl
    | true =>
    refine .inr ⟨rfl, ?_⟩
    by_cases a4 : 0 ≤ s.kind
    case neg => exact .inl (by simpa using a4)
    refine .inr ⟨a4, ?_⟩
    by_cases a5 : s.kind ≤ 5
    case neg => exact .inl (by simpa using a5)
    refine .inr ⟨a5, ?_⟩
    by_cases a6 : 0 ≤ s.start
    case neg => exact .inl (by simpa using a6)
    refine .inr ⟨a6, ?_⟩
    by_cases a7 : 0 ≤ s.length
    case neg => exact .inl (by simpa using a7)
    refine .inr ⟨a7, ?_⟩
    by_cases a8 : s.start ≤ 4611686018427387903
    case neg => exact .inl (by simpa using a8)
    refine .inr ⟨a8, ?_⟩
    by_cases a9 : s.length ≤ 4611686018427387903 - s.start
    case neg => simpa using a9
    have : headB s = true := by
      simp only [headB, a2, a3, Bool.and_eq_true, Bool.or_eq_true, decide_eq_true_eq, ne_eq]
      exact ⟨⟨⟨⟨⟨⟨⟨⟨⟨by omega, a1⟩, trivial⟩, trivial⟩, a4⟩, a5⟩, a6⟩, a7⟩, a8⟩, a9⟩
    rw [hhead] at this
    cases this
  have HCASE := Lib.hid hcase
  clear hcase hhead
  go_enter Try.func34, Try.ntmps34
  go_wp2_with fail
  rw [HW.out]
  refine HC.out.mono ?_
  rintro e w2 ⟨rfl, hb2⟩
  have hs2 := hb2.size
  have hb02 := hb0.trans (hb2.mono (by omega))
  have hf2 := (Rd.below hf1 (hb2.mono (by omega))).more (show B ≤ w2.heap.size by omega)
  have bk2 := bk.below hb2 (by omega)
  obtain ⟨g, hg⟩ : ∃ g, w.heap.size = g := ⟨_, rfl⟩
  rw [hg] at bk2 ⊢
  have k0 : w2.cell? ⟨g, 0, none⟩ = some (.int .u64 s.hi) := bk2.cell 0
  have k1 : w2.cell? ⟨g, 1, none⟩ = some (.int .u64 s.lo) := bk2.cell 1
  have k2 : w2.cell? ⟨g, 2, none⟩ = some (.int .u64 s.id) := bk2.cell 2
  have k4 : w2.cell? ⟨g, 4, none⟩ = some (.string s.service) := bk2.cell 4
  have k5 : w2.cell? ⟨g, 5, none⟩ = some (.string s.name) := bk2.cell 5
  have k6 : w2.cell? ⟨g, 6, none⟩ = some (.int .i64 s.kind) := bk2.cell 6
  have k7 : w2.cell? ⟨g, 7, none⟩ = some (.int .i64 s.start) := bk2.cell 7
  have k8 : w2.cell? ⟨g, 8, none⟩ = some (.int .i64 s.length) := bk2.cell 8
  have k10 : w2.cell? ⟨g, 10, none⟩ = some (.slice A n c) := bk2.cell 10
  clear bk hf1 hb0 HW
  have HHS := Lib.hid hs2
  have HH1 := Lib.hid hs1
  have HHB := Lib.hid hB
  have HHG := Lib.hid hg
  have HB02 := Lib.hid hb02
  have HF2 := Lib.hid hf2
  have HBK := Lib.hid bk2
  clear hs2 hs1 hB hg hb02 hf2 bk2 hf hb2
  have hcase := HCASE.out
  clear HCASE
  rcases hcase with ⟨a0, a0'⟩ | ⟨a0, a1 | ⟨a1, a2 | ⟨a2, a3 | ⟨a3, a4 | ⟨a4, a5 | ⟨a5, a6 | ⟨a6, a7 | ⟨a7, a8 | ⟨a8, a9⟩⟩⟩⟩⟩⟩⟩⟩⟩
  all_goals first
    | (have d1 : ((s.id : Int) != 0) = true := by rw [bne_iff_ne]; omega)
    | (have d1 : ((s.id : Int) != 0) = false := by rw [a1]; rfl)
    | skip
  all_goals go_wp2_with (first
    | (go_at_call 51; refine (spName _ _).mono ?_; rintro e w' ⟨rfl, hw⟩; rw [hw]; clear hw w'; first | rw [a2] | rw [a3]))
  all_goals
    go_loopw [3, 63] (fun fv iv_ wr => ∃ j : Nat, j ≤ n ∧ iv_ = .int .i64 j ∧ fv = .bool false ∧ Below w2.heap.size w2 wr) (fun _ i _ => n - (intOf i).toNat)
    case atStart => exact ⟨0, by omega, rfl, rfl, Below.refl _ _⟩
    case round =>
      obtain ⟨j, hj, rfl, rfl, hb⟩ := hrel
      have hgl : g < w2.heap.size := by have := HHG.out; have := HHS.out; have := HH1.out; omega
      by_cases hlt : j < n
      · have hlt' : (j : Int) < (n : Int) := by omega
        obtain ⟨x, hx⟩ : ∃ x, s.tags[j]? = some x := ⟨_, List.getElem?_eq_getElem (by rw [HN.out]; exact hlt)⟩
        have hRb : Rd wr w2.heap.size A (tgs s.tags) := (Rd.more HF2.out (Nat.le_refl _)).below hb
        obtain ⟨b, o, rfl, hbb, c1, c2⟩ := RbT.get hRb hx
        have k10' : wr.cell? ⟨g, 10, none⟩ = some (.slice (some ⟨b, o, none⟩) n c) := (hb.cell (p := ⟨g, 10, none⟩) hgl).trans k10
        have HX := Lib.hid hx
        clear hx
        go_wp2_with fail
        have hbW := hb.alloc hb.size (.cells #[.string x.key, .string x.val] 90)
        obtain ⟨W, hW⟩ : ∃ W, wr.alloc (.cells #[.string x.key, .string x.val] 90) = W := ⟨_, rfl⟩
        rw [hW] at hbW ⊢
        have HBW := Lib.hid hbW
        clear hW hbW hRb hb hgl c1 c2 k10'
        go_quiet (fail)
        go_wp2
        go_roundw
        case rel => exact ⟨j + 1, by omega, by go_num, rfl, below_drewN HBW.out _⟩
        case measure => simp [intOf]; omega
      · have hlt' : decide ((j : Int) < (n : Int)) = false := by simp; omega
        go_wp2
        go_ret
        exact ⟨rfl, HB02.out.trans (hb.mono (by have := HHS.out; have := HH1.out; omega))⟩

set_option maxHeartbeats 400000 in
/-- Check of any span. -/
theorem spCheck {A : Option Addr} {c n B : Nat} (s : Sp) (w : World) (hf : RbT w B A s.tags) (hn : s.tags.length = n) (hB : B ≤ w.heap.size) (hnl : n ≤ 9223372036854775807) :
    Calls Try.prog 34 #[spV s A n c] w fun e w' => e = .returned (.int .i64 (spChk s)) ∧ Below w.heap.size w w' := by
  cases hl : longB s with
  | true =>
    have hr : spChk s = 3 := by rw [spChk, if_pos hl]
    rw [hr]
    have hf1 := Rd.alloc hf hB (.cells (spC s A n c) 43)
    have hb0 : Below w.heap.size w (w.alloc (.cells (spC s A n c) 43)) := (Below.refl _ w).alloc (Nat.le_refl _) _
    have hc := spLong (c := c) s _ hf1 hn (by simp; omega) hnl
    rw [hl] at hc
    have HC := Lib.hid hc
    clear hc hl
    go_enter Try.func34, Try.ntmps34
    go_wp2_with fail
    refine HC.out.mono ?_
    rintro e w2 ⟨rfl, hb2⟩
    go_wp2
    go_ret
    exact ⟨rfl, hb0.trans (hb2.mono (by simp))⟩
  | false =>
    cases hh : headB s with
    | false =>
      have hr : spChk s = 2 := by rw [spChk, hl, hh]; rfl
      rw [hr]
      exact spCheck0 s w hf hn hB hnl hl hh
    | true =>
      have hr : spChk s = if tagsOk s.tags n = true then 0 else 2 := by rw [spChk, hl, hh, hn]; rfl
      rw [hr]
      exact spCheck1 s w hf hn hB hnl hl hh
end Go.Proofs.Ythaiplhjekkooaa
