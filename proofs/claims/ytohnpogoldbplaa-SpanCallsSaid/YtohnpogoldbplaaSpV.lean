/- Spans: the examples that each statement of layer 17 asks first. -/
import Derived.Laws.ResultCell
import Derived.Deep.RegionHeld3
import Derived.Test.YtohnpogoldbplaaSpQ
import Derived.Test.YtohnpogoldbplaaSpD
import Derived.Test.YtohnpogoldbplaaSpF
import Derived.Test.YtohnpogoldbplaaSpI
import Derived.Test.YtohnpogoldbplaaSpS
namespace Go.Proofs.Ytohnpogoldbplaa
open Go.RowKit

def oneS : Sp := ⟨1, 255, 7, 0, ⟨#[97]⟩, ⟨#[120]⟩, 1, 300, 5, true, [⟨⟨#[107]⟩, ⟨#[118]⟩⟩]⟩
theorem one_chk : spChk oneS = 0 := by decide +kernel
theorem one_err : prErr (spEnc oneS) = 0 := by decide +kernel
theorem one_sp : (prAll (spEnc oneS)).1 = oneS := by decide +kernel
theorem zero_chk : spChk zeroSp = 2 := by decide +kernel
theorem one_trc : (strOfNums (idL 1) ++ strOfNums (idL 255)) = ⟨#[48, 48, 48, 48, 48, 48, 48, 48, 48, 48, 48, 48, 48, 48, 48, 49, 48, 48, 48, 48, 48, 48, 48, 48, 48, 48, 48, 48, 48, 48, 102, 102]⟩ := by decide +kernel
def OnePost (w : World) (e : Ending) (w' : World) : Prop := ∃ A, e = .returned (spV oneS A 1 1) ∧ RbT w' w'.heap.size A oneS.tags ∧ Below w.heap.size w w'
set_option maxRecDepth 100000 in
set_option maxHeartbeats 1000000 in
theorem lawOne (w : World) : Calls Try.prog 13 #[] w (OnePost w) := by
  go_enter Try.func13, Try.ntmps13
  go_wp2_with fail
  try simp only [Exit.inBlock, Exit.then]
  refine bodyPost_ret (results_cell_row rfl _ _ w.heap.size 27 (spC oneS (some ⟨w.heap.size + 1, 0, none⟩) 1 1) (0, 0) _ rfl ?_ Try.underlying27 rfl ?_) rfl ?_
  · show ((w.alloc _).alloc _).heap[w.heap.size]? = _
    rw [heap_alloc_old _ _ (h := by simp), heap_alloc_new]
    rfl
  · rfl
  · refine ⟨some ⟨w.heap.size + 1, 0, none⟩, rfl, ?_, ((Below.refl _ w).alloc (Nat.le_refl _) _).alloc (by simp) _⟩
    have h := Rd.lit' (w := w.alloc (.cells #[.int .u64 1, .int .u64 255, .int .u64 7, .int .u64 0, .string ⟨#[97]⟩, .string ⟨#[120]⟩, .int .i64 1, .int .i64 300, .int .i64 5, .bool true, .slice (some ⟨w.heap.size + 1, 0, none⟩) 1 1] 27)) (cs := #[.string ⟨#[107]⟩, .string ⟨#[118]⟩]) (t := 42) (g := w.heap.size + 1) (by simp)
    exact h.more (by simp)
end Go.Proofs.Ytohnpogoldbplaa
