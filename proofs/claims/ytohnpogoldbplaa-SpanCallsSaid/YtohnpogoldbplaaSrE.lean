/- Spans: Same, the program's and the document's. -/
import Derived.Test.YtohnpogoldbplaaSrD
import Derived.Test.YtohnpogoldbplaaSpU
namespace Go.Proofs.Ytohnpogoldbplaa
open Go.RowKit

set_option maxRecDepth 100000 in
set_option maxHeartbeats 4000000 in
theorem spSame {A1 A2 : Option Addr} {c1 c2 n m B : Nat} (a b : Sp) (w : World) (hf : RbT w B A1 a.tags) (hg : RbT w B A2 b.tags) (hn : a.tags.length = n) (hm : b.tags.length = m) (hB : B ≤ w.heap.size) (hnl : n ≤ 9223372036854775807) (hml : m ≤ 9223372036854775807) :
    Calls Try.prog 24 #[spV a A1 n c1, spV b A2 m c2] w fun e w' => e = .returned (.bool (decide (spCmp a b = 0))) ∧ Below w.heap.size w w' := by
  have hb0 : Below w.heap.size w ((w.alloc (.cells (spC a A1 n c1) 27)).alloc (.cells (spC b A2 m c2) 27)) := ((Below.refl _ w).alloc (Nat.le_refl _) _).alloc (by simp) _
  have hff := Rd.below hf (hb0.mono hB)
  have hgg := Rd.below hg (hb0.mono hB)
  have bk1 := (Bk.new w 27 (spC a A1 n c1)).alloc (.cells (spC b A2 m c2) 27)
  have bk2 := Bk.new (w.alloc (.cells (spC a A1 n c1) 27)) 27 (spC b A2 m c2)
  rw [World.size_alloc] at bk2
  obtain ⟨W, hW⟩ : ∃ W, (w.alloc (.cells (spC a A1 n c1) 27)).alloc (.cells (spC b A2 m c2) 27) = W := ⟨_, rfl⟩
  rw [hW] at hb0 hff hgg bk1 bk2
  have HW := Lib.hid hW
  obtain ⟨g, hgq⟩ : ∃ g, w.heap.size = g := ⟨_, rfl⟩
  rw [hgq] at bk1 bk2
  have HG := Lib.hid hgq
  have hc := spCompare (c1 := c1) (c2 := c2) a b W hff hgg hn hm (by have := hb0.size; omega) hnl hml
  obtain ⟨z, hz⟩ : ∃ z, spCmp a b = z := ⟨_, rfl⟩
  have hzz : decide (spCmp a b = 0) = (z == 0) := by rw [hz, Bool.eq_iff_iff]; simp
  rw [hz] at hc
  rw [hzz]
  have HC := Lib.hid hc
  clear hzz hz hc hW hgq hf hg hn hm hff hgg
  go_enter Try.func24, Try.ntmps24
  go_upto_region 1 with fail
  rw [HW.out, HG.out]
  go_wp2_with (first
    | (refine wpList_load_row rfl 27 (.tmp 2) rfl g rfl 27 (spC a A1 n c1) (0, 0) _ bk1 Try.underlying27 rfl (by rfl) ?_)
    | (refine wpList_load_row rfl 27 (.tmp 3) rfl (g + 1) rfl 27 (spC b A2 m c2) (0, 0) _ bk2 Try.underlying27 rfl (by rfl) ?_)
    | (go_at_call 22; refine HC.out.mono ?_; rintro e w' ⟨rfl, hb'⟩))
  go_ret
  exact ⟨rfl, hb0.trans (hb'.mono hb0.size)⟩
set_option maxRecDepth 100000 in
set_option maxHeartbeats 4000000 in
theorem rSame {A1 A2 : Option Addr} {c1 c2 n m B : Nat} (a b : Sp) (w : World) (hf : RbT w B A1 a.tags) (hg : RbT w B A2 b.tags) (hn : a.tags.length = n) (hm : b.tags.length = m) (hB : B ≤ w.heap.size) (hnl : n ≤ 9223372036854775807) (hml : m ≤ 9223372036854775807) :
    Calls Try.prog 25 #[spV a A1 n c1, spV b A2 m c2] w fun e w' => e = .returned (.bool (decide (spCmp a b = 0))) ∧ Below w.heap.size w w' := by
  have hb0 : Below w.heap.size w ((w.alloc (.cells (spC a A1 n c1) 27)).alloc (.cells (spC b A2 m c2) 27)) := ((Below.refl _ w).alloc (Nat.le_refl _) _).alloc (by simp) _
  have hff := Rd.below hf (hb0.mono hB)
  have hgg := Rd.below hg (hb0.mono hB)
  have bk1 := (Bk.new w 27 (spC a A1 n c1)).alloc (.cells (spC b A2 m c2) 27)
  have bk2 := Bk.new (w.alloc (.cells (spC a A1 n c1) 27)) 27 (spC b A2 m c2)
  rw [World.size_alloc] at bk2
  obtain ⟨W, hW⟩ : ∃ W, (w.alloc (.cells (spC a A1 n c1) 27)).alloc (.cells (spC b A2 m c2) 27) = W := ⟨_, rfl⟩
  rw [hW] at hb0 hff hgg bk1 bk2
  have HW := Lib.hid hW
  obtain ⟨g, hgq⟩ : ∃ g, w.heap.size = g := ⟨_, rfl⟩
  rw [hgq] at bk1 bk2
  have HG := Lib.hid hgq
  have hc := rCompare (c1 := c1) (c2 := c2) a b W hff hgg hn hm (by have := hb0.size; omega) hnl hml
  obtain ⟨z, hz⟩ : ∃ z, spCmp a b = z := ⟨_, rfl⟩
  have hzz : decide (spCmp a b = 0) = (z == 0) := by rw [hz, Bool.eq_iff_iff]; simp
  rw [hz] at hc
  rw [hzz]
  have HC := Lib.hid hc
  clear hzz hz hc hW hgq hf hg hn hm hff hgg
  go_enter Try.func25, Try.ntmps25
  go_upto_region 1 with fail
  rw [HW.out, HG.out]
  go_wp2_with (first
    | (refine wpList_load_row rfl 27 (.tmp 2) rfl g rfl 27 (spC a A1 n c1) (0, 0) _ bk1 Try.underlying27 rfl (by rfl) ?_)
    | (refine wpList_load_row rfl 27 (.tmp 3) rfl (g + 1) rfl 27 (spC b A2 m c2) (0, 0) _ bk2 Try.underlying27 rfl (by rfl) ?_)
    | (go_at_call 23; refine HC.out.mono ?_; rintro e w' ⟨rfl, hb'⟩))
  go_ret
  exact ⟨rfl, hb0.trans (hb'.mono hb0.size)⟩
end Go.Proofs.Ytohnpogoldbplaa
