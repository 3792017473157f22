/- The statement BloomNames: the chapter's examples come out as it tells. The walk. -/
import Derived.Test.YtccpjjpceokodaaBLives
namespace Go.Proofs.Ytccpjjpceokodaa
open Go.RowKit

theorem bits3 : bitsOf (-1) 10 = (0, 0, 2) := by decide +kernel
theorem bits4 : bitsOf 8388608 10 = (0, 0, 3) := by decide +kernel
theorem has2 : hasOf (filterOf 8 6 [[97]]) [122, 122, 122] = false := by decide +kernel
theorem has3 : hasOf [] [] = true := by decide +kernel
theorem has4 : hasOf [0, 31] [] = true := by decide +kernel

set_option maxHeartbeats 4000000 in
theorem bloomNames_walk (w : World) : Calls Try.prog 3 #[] w fun e w' => e = .returned (.bool true) ∧ Below w.heap.size w w' := by
  go_enter Try.func3, Try.ntmps3
  go_wp2_with fail
  refine (bloomBits (-1) 10 w rfl rfl).mono ?_
  rintro e w ⟨rfl, rfl⟩
  rw [bits3]
  simp only []
  go_wp2_with fail
  refine (bloomBits 8388608 10 w rfl rfl).mono ?_
  rintro e w ⟨rfl, rfl⟩
  rw [bits4]
  simp only []
  have cv1 := conv_const w #[.int .u8 97] 1 1 w.heap.size rfl
  simp only [List.size_toArray, List.length_cons, List.length_nil, Nat.reduceAdd] at cv1
  go_wp2_with fail
  have hb0 : Below w.heap.size w ((w.alloc (.cells #[.int .u8 97] 5 (1, 2))).alloc (.cells #[.slice (some ⟨w.heap.size, 0, none⟩) 1 1] 25)) :=
    ((Below.refl _ w).alloc (Nat.le_refl _) _).alloc (by simp) _
  have r1 : Rb ((w.alloc (.cells #[.int .u8 97] 5 (1, 2))).alloc (.cells #[.slice (some ⟨w.heap.size, 0, none⟩) 1 1] 25)) (w.heap.size + 2) (some ⟨w.heap.size, 0, none⟩) [97] :=
    ((Rd.litm (w := w) (cs := #[.int .u8 97]) (t := 5) rfl).alloc (by simp) _).more (by omega)
  have rm : RbM ((w.alloc (.cells #[.int .u8 97] 5 (1, 2))).alloc (.cells #[.slice (some ⟨w.heap.size, 0, none⟩) 1 1] 25)) (w.heap.size + 2) (some ⟨w.heap.size + 1, 0, none⟩) [[97]] :=
    RbM.of ((Rd.lit' (w := w.alloc (.cells #[.int .u8 97] 5 (1, 2))) (cs := #[.slice (some ⟨w.heap.size, 0, none⟩) 1 1]) (t := 25) (g := w.heap.size + 1) (by simp)).more (by omega))
      (Hs.cons (zs := [97]) (Hs.nil _ _) (by simp) r1)
  obtain ⟨W1, hW1⟩ : ∃ W1, ((w.alloc (.cells #[.int .u8 97] 5 (1, 2))).alloc (.cells #[.slice (some ⟨w.heap.size, 0, none⟩) 1 1] 25)) = W1 := ⟨_, rfl⟩
  have hs1 : W1.heap.size = w.heap.size + 2 := by rw [← hW1]; simp
  rw [hW1] at hb0 rm ⊢
  clear hW1 r1 cv1
  refine (bloomMake1 (n8 := 8) (k := 6) (n := 1) (d := 10) _ rm (by simp [Byt, maxLen]) rfl (by omega) rfl (by omega) (by omega) (by omega) (by omega) rfl (by omega)).mono ?_
  rintro e w2 ⟨A', c', rfl, happ, hne⟩
  have hb2 := hb0.trans (happ.below0.mono (by omega))
  have hs2 := happ.heap
  have hrf := happ.rd
  clear happ hb0 rm hs1
  go_wp2_with fail
  refine (lives_true w2).mono ?_
  rintro e w3 ⟨rfl, hb⟩
  have hb3 := hb2.trans (hb.mono hb2.size)
  have hrf3 := hrf.belowS hb
  clear hb hb2 hrf hs2
  have cv1 := conv_const w3 #[.int .u8 122, .int .u8 122, .int .u8 122] 3 3 w3.heap.size rfl
  simp only [List.size_toArray, List.length_cons, List.length_nil, Nat.reduceAdd] at cv1
  have r1 : Rb (w3.alloc (.cells #[.int .u8 122, .int .u8 122, .int .u8 122] 5 (3, 4))) (w3.heap.size + 1) (some ⟨w3.heap.size, 0, none⟩) [122, 122, 122] := Rd.litm (w := w3) (cs := #[.int .u8 122, .int .u8 122, .int .u8 122]) (t := 5) rfl
  have h1 := bloomHas (c := c') (c1 := 3) (n := 9) (n1 := 3) _ (hrf3.allocS (.cells #[.int .u8 122, .int .u8 122, .int .u8 122] 5 (3, 4))) (fbyt 8 (k := 6) [[97]] (by omega)) r1 (Byt.of rfl) (by rw [flen]; omega) (by simp [maxLen]) (flen ..) rfl (by simp) (by simp)
  rw [has2] at h1
  have hb4 := hb3.alloc hb3.size (.cells #[.int .u8 122, .int .u8 122, .int .u8 122] 5 (3, 4))
  go_wp2_with fail
  refine h1.mono ?_
  rintro e w5 ⟨rfl, hb5⟩
  have hb6 := hb4.trans (hb5.mono hb4.size)
  clear hb3 hb4 hb5 cv1 r1 h1 hrf3
  have h2 := bloomHas (A := none) (A1 := none) (c := 0) (c1 := 0) (n := 0) (n1 := 0) (B := 0) (B1 := 0) (fs := []) (zs := []) w5 Rd.nil (Byt.of rfl) Rd.nil (Byt.of rfl) (by simp) (by simp) rfl rfl (by simp) (by simp)
  rw [has3] at h2
  go_wp2_with fail
  refine h2.mono ?_
  rintro e w7 ⟨rfl, hb7⟩
  have hb8 := hb6.trans (hb7.mono hb6.size)
  clear hb6 hb7 h2
  have h3 := bloomHas (A1 := none) (c := 2) (c1 := 0) (n := 2) (n1 := 0) (B1 := 0) (fs := [0, 31]) (zs := []) _ (Rd.lit w7 #[.int .u8 0, .int .u8 31] 5) (Byt.of rfl) Rd.nil (Byt.of rfl) (by simp) (by simp) rfl rfl (by simp) (by simp)
  rw [has4] at h3
  have hb9 := hb8.alloc hb8.size (.cells #[.int .u8 0, .int .u8 31] 5)
  go_wp2_with fail
  refine h3.mono ?_
  rintro e w8 ⟨rfl, hb10⟩
  have hb11 := hb9.trans (hb10.mono hb9.size)
  clear hb8 hb9 hb10 h3
  go_wp2
  go_ret
  exact ⟨rfl, hb11⟩
end Go.Proofs.Ytccpjjpceokodaa
