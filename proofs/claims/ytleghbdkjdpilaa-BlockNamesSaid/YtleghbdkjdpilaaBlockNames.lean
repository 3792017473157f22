/- The statement BlockNames: the chapter's examples come out as it tells. The walk. -/
import Derived.Test.YtleghbdkjdpilaaBkL
namespace Go.Proofs.Ytleghbdkjdpilaa
open Go.RowKit

theorem nmA : blkOut [] = ([], 2) := by decide +kernel
theorem nmB : blkOut [⟨[97, 99], 1, 1, []⟩, ⟨[97, 98], 1, 1, []⟩] = ([], 2) := by decide +kernel
theorem nmC : parOf [0, 0, 0, 0] = ([], 4) := by
  unfold parOf
  rw [if_neg (by decide), if_pos (by decide)]
theorem nmD : (blk []).length = 4 := by decide +kernel
set_option maxHeartbeats 4000000 in
set_option maxRecDepth 100000 in
theorem blockNames_walk (w : World) : Calls Try.prog 4 #[] w fun e w' => e = .returned (.bool true) ∧ Below w.heap.size w w' := by
  go_enter Try.func4, Try.ntmps4
  go_wp2_with fail
  have ca := blkAppend (A := none) (c := 0) [] w (RbE.nil (B := w.heap.size)) rfl (Nat.le_refl _) (by simp)
  rw [show ens [] = [] from rfl, nmA] at ca
  refine ca.mono ?_
  rintro e w1 ⟨A5, c5, rfl, hn1⟩
  have hb1 := hn1.bel
  clear ca hn1
  go_wp2_with fail
  refine (lawEntryN ⟨#[97, 99]⟩ ⟨#[]⟩ 2 0 1 [97, 99] [] w1 rfl rfl rfl rfl (by omega) (by omega) (by omega)).mono ?_
  rintro e w2 ⟨A1, c1, A2, c2, rfl, hb2, ok2⟩
  go_wp2_with fail
  refine (lawEntryN ⟨#[97, 98]⟩ ⟨#[]⟩ 2 0 1 [97, 98] [] w2 rfl rfl rfl rfl (by omega) (by omega) (by omega)).mono ?_
  rintro e w3 ⟨A3, c3, A4, c4, rfl, hb3, ok3⟩
  go_wp2_with fail
  have hal : Below w3.heap.size w3 (w3.alloc (.cells #[.slice A1 2 c1, .int .u64 1, .int .i64 1, .slice A2 0 c2, .slice A3 2 c3, .int .u64 1, .int .i64 1, .slice A4 0 c4] 29)) := (Below.refl _ w3).alloc (Nat.le_refl _) _
  have rbe : RbE (w3.alloc (.cells #[.slice A1 2 c1, .int .u64 1, .int .i64 1, .slice A2 0 c2, .slice A3 2 c3, .int .u64 1, .int .i64 1, .slice A4 0 c4] 29)) (w3.heap.size + 1) (some ⟨w3.heap.size, 0, none⟩) [⟨⟨[97, 99], 1, 1, []⟩, A1, c1, A2, c2⟩, ⟨⟨[97, 98], 1, 1, []⟩, A3, c3, A4, c4⟩] :=
    RbE.two (Rd.lit' (w := w3) (cs := #[.slice A1 2 c1, .int .u64 1, .int .i64 1, .slice A2 0 c2, .slice A3 2 c3, .int .u64 1, .int .i64 1, .slice A4 0 c4]) (t := 29) (g := w3.heap.size) rfl)
      ((((ok2.below hb3).more hb3.size).below hal).more (by omega)) ((ok3.below hal).more (by omega))
  have hb02 := hb1.trans (hb2.mono hb1.size)
  have hb03 := hb02.trans (hb3.mono hb02.size)
  have hbW := hb03.trans (hal.mono hb03.size)
  obtain ⟨W, hW⟩ : ∃ W, w3.alloc (.cells #[.slice A1 2 c1, .int .u64 1, .int .i64 1, .slice A2 0 c2, .slice A3 2 c3, .int .u64 1, .int .i64 1, .slice A4 0 c4] 29) = W := ⟨_, rfl⟩
  have hsW : W.heap.size = w3.heap.size + 1 := by rw [← hW]; simp
  rw [hW] at rbe hbW ⊢
  rw [← hsW] at rbe
  clear hW hal hb1 hb2 hb02 hb3 hb03 ok2 ok3
  have ca := blkAppend (c := 2) _ W rbe rfl (Nat.le_refl _) (by simp)
  rw [show ens [⟨⟨[97, 99], 1, 1, []⟩, A1, c1, A2, c2⟩, ⟨⟨[97, 98], 1, 1, []⟩, A3, c3, A4, c4⟩] = [⟨[97, 99], 1, 1, []⟩, ⟨[97, 98], 1, 1, []⟩] from rfl, nmB] at ca
  refine ca.mono ?_
  rintro e w4 ⟨A6, c6, rfl, hn4⟩
  have hb4 := hbW.trans (hn4.bel.mono hbW.size)
  clear ca hn4 hbW rbe
  go_wp2_with fail
  have rl : Rb (w4.alloc (.cells #[.int .u8 0, .int .u8 0, .int .u8 0, .int .u8 0] 5)) (w4.heap.size + 1) (some ⟨w4.heap.size, 0, none⟩) [0, 0, 0, 0] := Rd.lit w4 #[.int .u8 0, .int .u8 0, .int .u8 0, .int .u8 0] 5
  have hb5 := hb4.alloc hb4.size (.cells #[.int .u8 0, .int .u8 0, .int .u8 0, .int .u8 0] 5)
  have cp := blkParse (c := 4) _ rl (by simp) (by intro x hx; simp at hx; omega) rfl (Nat.le_refl _) (fun h => by cases h) (by simp)
  rw [nmC] at cp
  refine cp.mono ?_
  rintro e w6 ⟨A7, c7, acc, -, rfl, -, hb6, -⟩
  have hb06 := hb5.trans (hb6.mono hb5.size)
  clear cp rl hb4 hb5 hb6
  go_wp2_with fail
  refine (lives_true w6).mono ?_
  rintro e w7 ⟨rfl, hb7⟩
  have hb07 := hb06.trans (hb7.mono hb06.size)
  have cs := blkSize (A := none) (c := 0) [] w7 (RbE.nil (B := w7.heap.size)) rfl (Nat.le_refl _) (by simp) (fun e h => by cases h)
  rw [show ens [] = [] from rfl, nmD] at cs
  go_wp2_with fail
  refine cs.mono ?_
  rintro e w8 ⟨rfl, hb8⟩
  have hb08 := hb07.trans (hb8.mono hb07.size)
  go_wp2_with fail
  go_ret
  exact ⟨rfl, hb08⟩
end Go.Proofs.Ytleghbdkjdpilaa
