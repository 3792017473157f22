/- The statement SpanNames: the numbers and worked examples of the chapter on spans come out as they are written. The walk. -/
import Derived.Test.YtohnpogoldbplaaSpW
import Derived.Test.YtohnpogoldbplaaSpT
namespace Go.Proofs.Ytohnpogoldbplaa
open Go.RowKit

def zero32 : ByteArray := ⟨#[48, 48, 48, 48, 48, 48, 48, 48, 48, 48, 48, 48, 48, 48, 48, 48, 48, 48, 48, 48, 48, 48, 48, 48, 48, 48, 48, 48, 48, 48, 48, 48]⟩
theorem pt_a : ptOf zero32 = (0, 0, 2) := by decide +kernel
theorem pt_b : ptOf (zero32.extract 0 31) = (0, 0, 2) := by decide +kernel
theorem pt_c : ptOf ⟨#[48, 48, 48, 48, 48, 48, 48, 48, 48, 48, 48, 48, 48, 48, 48, 49, 48, 48, 48, 48, 48, 48, 48, 48, 48, 48, 48, 48, 48, 48, 102, 102]⟩ = (1, 255, 0) := by decide +kernel
def xS : Sp := { oneS with service := ⟨#[]⟩ }
def yS : Sp := { oneS with tags := [⟨⟨#[98]⟩, ⟨#[]⟩⟩, ⟨⟨#[97]⟩, ⟨#[]⟩⟩] }
theorem chk_x : spChk xS = 2 := by decide +kernel
theorem chk_y : spChk yS = 2 := by decide +kernel
theorem chk_z (n : ByteArray) (h : n.size = 129) : spChk { oneS with name := n } = 3 := by
  have : longB { oneS with name := n } = true := by simp [longB, h]
  rw [spChk, if_pos this]
theorem Bk.far_row {w : World} {g k : Nat} {t : TypeId} {cs : Array Value} (h : Bk w g t cs) (hne : g ≠ k) (ds : Array Value) : Bk (w.setRow k ds) g t cs := by
  unfold Bk at h ⊢
  rw [← h]
  simp [World.setRow, Array.getElem?_modify]
  intro e; exact absurd e.symm hne

set_option maxRecDepth 100000 in
set_option maxHeartbeats 4000000 in
theorem spanNames_walk (w : World) : Calls Try.prog 4 #[] w fun e w' => e = .returned (.bool true) ∧ Below w.heap.size w w' := by
  have P1 := fun W => spParseTrace W zero32
  rw [pt_a] at P1
  have P2 := fun W => spParseTrace W (zero32.extract 0 31)
  rw [pt_b] at P2
  have P3 := fun W => spParseTrace W ⟨#[48, 48, 48, 48, 48, 48, 48, 48, 48, 48, 48, 48, 48, 48, 48, 49, 48, 48, 48, 48, 48, 48, 48, 48, 48, 48, 48, 48, 48, 48, 102, 102]⟩
  rw [pt_c] at P3
  have H1 := Lib.hid P1
  have H2 := Lib.hid P2
  have H3 := Lib.hid P3
  clear P1 P2 P3
  go_enter Try.func4, Try.ntmps4
  go_wp2_with fail
  refine (lawLives w).mono ?_
  rintro e v0 ⟨rfl, hb0⟩
  go_wp2_with fail
  refine (H1.out v0).mono ?_
  rintro e v1 ⟨rfl, hb1⟩
  have hs0 := hb0.size
  have hs1 := hb1.size
  have hb01 := (hb0.trans (hb1.mono hs0)).alloc (by omega) (.cells #[.int .u64 0, .int .u64 0] 24)
  clear hb0 hb1 hs0 hs1
  go_wp2_with fail
  refine (H2.out _).mono ?_
  rintro e v2 ⟨rfl, hb2⟩
  have hs01 := hb01.size
  have hs2 := hb2.size
  have hb02 := (hb01.trans (hb2.mono hs01)).alloc (by omega) (.cells #[.int .u64 0, .int .u64 0] 24)
  clear hb01 hb2 hs01 hs2
  go_wp2_with fail
  refine (H3.out _).mono ?_
  rintro e v3 ⟨rfl, hb3⟩
  have hs02 := hb02.size
  have hs3 := hb3.size
  have hb03 := (hb02.trans (hb3.mono hs02)).alloc (by omega) (.cells #[.int .u64 1, .int .u64 255] 24)
  have b6 := Bk.new v3 24 #[.int .u64 1, .int .u64 255]
  obtain ⟨v3a, hv3⟩ : ∃ v, v3.alloc (.cells #[.int .u64 1, .int .u64 255] 24) = v := ⟨_, rfl⟩
  rw [hv3] at hb03 b6
  have HV3 := Lib.hid hv3
  obtain ⟨g6, hg6⟩ : ∃ g, v3.heap.size = g := ⟨_, rfl⟩
  rw [hg6] at b6
  have HG6 := Lib.hid hg6
  clear hb02 hb3 hs02 hs3 hv3 hg6
  go_upto_region 7 with fail
  rw [HV3.out, HG6.out]
  go_wp2_with fail
  have hs03 := hb03.size
  refine (lawOne v3a).mono ?_
  rintro e v4 ⟨A4, rfl, ht4, hb4⟩
  have hs4 := hb4.size
  have b64 := b6.below hb4 b6.lt
  have hb04 := hb03.trans (hb4.mono hs03)
  have hs04 := hb04.size
  clear hb03 b6 hb4 hs4
  go_wp2_with fail
  refine (lawOne v4).mono ?_
  rintro e v5 ⟨A5, rfl, ht5, hb5⟩
  have hs5 := hb5.size
  have b65 := b64.below hb5 b64.lt
  have hb05 := hb04.trans (hb5.mono hs04)
  have ht45 := Rd.belowS ht4 hb5
  have hs05 := hb05.size
  clear hb04 b64 hb5 ht4 hs5
  go_wp2_with fail
  refine (lawOne v5).mono ?_
  rintro e v6 ⟨A6, rfl, ht6, hb6⟩
  have hs6 := hb6.size
  have b66 := b65.below hb6 b65.lt
  have hb06 := hb05.trans (hb6.mono hs05)
  have ht46 := Rd.belowS ht45 hb6
  have ht56 := Rd.belowS ht5 hb6
  have hs06 := hb06.size
  clear hb05 b65 hb6 ht45 ht5 hs6
  go_upto_region 8 with fail
  have hb1 := ((hb06.alloc hs06 (.cells (spC oneS A4 1 1) 27)).alloc (by simp; omega) (.cells (spC oneS A5 1 1) 27)).alloc (by simp; omega) (.cells (spC oneS A6 1 1) 27)
  have ht4v := Rd.alloc (Rd.alloc (Rd.alloc ht46 (Nat.le_refl _) (.cells (spC oneS A4 1 1) 27)) (by simp) (.cells (spC oneS A5 1 1) 27)) (by simp; omega) (.cells (spC oneS A6 1 1) 27)
  have ht6v := Rd.alloc (Rd.alloc (Rd.alloc ht6 (Nat.le_refl _) (.cells (spC oneS A4 1 1) 27)) (by simp) (.cells (spC oneS A5 1 1) 27)) (by simp; omega) (.cells (spC oneS A6 1 1) 27)
  have b6v := ((b66.alloc (.cells (spC oneS A4 1 1) 27)).alloc (.cells (spC oneS A5 1 1) 27)).alloc (.cells (spC oneS A6 1 1) 27)
  have b8v := ((Bk.new v6 27 (spC oneS A4 1 1)).alloc (.cells (spC oneS A5 1 1) 27)).alloc (.cells (spC oneS A6 1 1) 27)
  have b9v := (Bk.new (v6.alloc (.cells (spC oneS A4 1 1) 27)) 27 (spC oneS A5 1 1)).alloc (.cells (spC oneS A6 1 1) 27)
  have b10v := Bk.new ((v6.alloc (.cells (spC oneS A4 1 1) 27)).alloc (.cells (spC oneS A5 1 1) 27)) 27 (spC oneS A6 1 1)
  rw [World.size_alloc] at b9v
  rw [World.size_alloc, World.size_alloc] at b10v
  obtain ⟨V, hV⟩ : ∃ V, (((v6.alloc (.cells (spC oneS A4 1 1) 27)).alloc (.cells (spC oneS A5 1 1) 27)).alloc (.cells (spC oneS A6 1 1) 27)) = V := ⟨_, rfl⟩
  rw [hV] at hb1 ht4v ht6v b6v b8v b9v b10v
  have HV := Lib.hid hV
  obtain ⟨g8, hg8⟩ : ∃ g, v6.heap.size = g := ⟨_, rfl⟩
  have hg6l : g6 < g8 := by rw [← hg8]; exact b66.lt
  rw [hg8] at b8v b9v b10v ht4v ht6v
  have HG8 := Lib.hid hg8
  have hwg : w.heap.size ≤ g8 := by rw [← hg8]; exact hs06
  clear hV hb06 ht46 ht56 ht6 b66 hs06 hg8
  rw [HV.out, HG8.out]
  -- x.Service = ""
  have k8 : V.cell? ⟨g8, 4, none⟩ = some (.string oneS.service) := b8v.cell 4
  have f8 : V.frozen? ⟨g8, 4, none⟩ = false := b8v.frozen 4
  have b8a : Bk (V.setCell ⟨g8, 4, none⟩ (.string ⟨#[]⟩)) g8 27 (spC xS A4 1 1) := b8v.set 4 _
  have b9a := b9v.far (p := ⟨g8, 4, none⟩) (by show g8 + 1 ≠ g8; omega) (.string ⟨#[]⟩)
  have b10a := b10v.far (p := ⟨g8, 4, none⟩) (by show g8 + 1 + 1 ≠ g8; omega) (.string ⟨#[]⟩)
  have b6a := b6v.far (p := ⟨g8, 4, none⟩) (by show g6 ≠ g8; omega) (.string ⟨#[]⟩)
  have hb1a := hb1.setCell (p := ⟨g8, 4, none⟩) hwg (.string ⟨#[]⟩)
  have ht4a := Rd.set ht4v (p := ⟨g8, 4, none⟩) (Nat.le_refl _) (.string ⟨#[]⟩)
  have ht6a := Rd.set ht6v (p := ⟨g8, 4, none⟩) (Nat.le_refl _) (.string ⟨#[]⟩)
  have gr1 : V.grownBy (V.setCell ⟨g8, 4, none⟩ (.string ⟨#[]⟩)) (some g8) := only_set (World.grownBy.refl _ _) _ _
  go_upto_region 9 with fail
  obtain ⟨V1, hV1⟩ : ∃ V1, V.setCell ⟨g8, 4, none⟩ (.string ⟨#[]⟩) = V1 := ⟨_, rfl⟩
  rw [hV1] at b8a b9a b10a b6a hb1a gr1 ht4a ht6a ⊢
  have hn8 : g8 + 1 + 1 < V1.heap.size := b10a.lt
  have hw1 := hb1a.size
  clear hV1 k8 f8 b8v b9v b10v b6v hb1
  -- y.Tags
  have hb2a := hb1a.alloc hw1 (.cells #[.string ⟨#[98]⟩, .string ⟨#[]⟩, .string ⟨#[97]⟩, .string ⟨#[]⟩] 42)
  have b8b := b8a.alloc (.cells #[.string ⟨#[98]⟩, .string ⟨#[]⟩, .string ⟨#[97]⟩, .string ⟨#[]⟩] 42)
  have b9b := b9a.alloc (.cells #[.string ⟨#[98]⟩, .string ⟨#[]⟩, .string ⟨#[97]⟩, .string ⟨#[]⟩] 42)
  have b10b := b10a.alloc (.cells #[.string ⟨#[98]⟩, .string ⟨#[]⟩, .string ⟨#[97]⟩, .string ⟨#[]⟩] 42)
  have b6b := b6a.alloc (.cells #[.string ⟨#[98]⟩, .string ⟨#[]⟩, .string ⟨#[97]⟩, .string ⟨#[]⟩] 42)
  have ht4b := Rd.alloc ht4a (by omega) (.cells #[.string ⟨#[98]⟩, .string ⟨#[]⟩, .string ⟨#[97]⟩, .string ⟨#[]⟩] 42)
  have ht6b := Rd.alloc ht6a (by omega) (.cells #[.string ⟨#[98]⟩, .string ⟨#[]⟩, .string ⟨#[97]⟩, .string ⟨#[]⟩] 42)
  have bt := Bk.new V1 42 #[.string ⟨#[98]⟩, .string ⟨#[]⟩, .string ⟨#[97]⟩, .string ⟨#[]⟩]
  have k9 : (V1.alloc (.cells #[.string ⟨#[98]⟩, .string ⟨#[]⟩, .string ⟨#[97]⟩, .string ⟨#[]⟩] 42)).cell? ⟨g8 + 1, 10, none⟩ = some (.slice A5 1 1) := b9b.cell 10
  have f9 : (V1.alloc (.cells #[.string ⟨#[98]⟩, .string ⟨#[]⟩, .string ⟨#[97]⟩, .string ⟨#[]⟩] 42)).frozen? ⟨g8 + 1, 10, none⟩ = false := b9b.frozen 10
  obtain ⟨V2, hV2⟩ : ∃ V2, V1.alloc (.cells #[.string ⟨#[98]⟩, .string ⟨#[]⟩, .string ⟨#[97]⟩, .string ⟨#[]⟩] 42) = V2 := ⟨_, rfl⟩
  rw [hV2] at hb2a b8b b9b b10b b6b bt ht4b ht6b
  obtain ⟨gt, hgt⟩ : ∃ gt, V1.heap.size = gt := ⟨_, rfl⟩
  rw [hgt] at bt hn8
  have b9c : Bk (V2.setCell ⟨g8 + 1, 10, none⟩ (.slice (some ⟨gt, 0, none⟩) 2 2)) (g8 + 1) 27 (spC yS (some ⟨gt, 0, none⟩) 2 2) := b9b.set 10 _
  have b8c := b8b.far (p := ⟨g8 + 1, 10, none⟩) (by show g8 ≠ g8 + 1; omega) (.slice (some ⟨gt, 0, none⟩) 2 2)
  have b10c := b10b.far (p := ⟨g8 + 1, 10, none⟩) (by show g8 + 1 + 1 ≠ g8 + 1; omega) (.slice (some ⟨gt, 0, none⟩) 2 2)
  have b6c := b6b.far (p := ⟨g8 + 1, 10, none⟩) (by show g6 ≠ g8 + 1; omega) (.slice (some ⟨gt, 0, none⟩) 2 2)
  have btc := bt.far (p := ⟨g8 + 1, 10, none⟩) (by show gt ≠ g8 + 1; omega) (.slice (some ⟨gt, 0, none⟩) 2 2)
  have hb3a := hb2a.setCell (p := ⟨g8 + 1, 10, none⟩) (by show _ ≤ g8 + 1; omega) (.slice (some ⟨gt, 0, none⟩) 2 2)
  have ht4c := Rd.set ht4b (p := ⟨g8 + 1, 10, none⟩) (by show g8 ≤ g8 + 1; omega) (.slice (some ⟨gt, 0, none⟩) 2 2)
  have ht6c := Rd.set ht6b (p := ⟨g8 + 1, 10, none⟩) (by show g8 ≤ g8 + 1; omega) (.slice (some ⟨gt, 0, none⟩) 2 2)
  have gr2 : V2.grownBy (V2.setCell ⟨g8 + 1, 10, none⟩ (.slice (some ⟨gt, 0, none⟩) 2 2)) (some (g8 + 1)) := only_set (World.grownBy.refl _ _) _ _
  have HV2 := Lib.hid hV2
  have HGT := Lib.hid hgt
  clear hV2 hgt b8a b9a b10a b6a hb1a b8b b9b b10b b6b bt hb2a hw1
  go_upto_region 10 with fail
  rw [HV2.out, HGT.out]
  clear k9 f9
  obtain ⟨V3, hV3⟩ : ∃ V3, V2.setCell ⟨g8 + 1, 10, none⟩ (.slice (some ⟨gt, 0, none⟩) 2 2) = V3 := ⟨_, rfl⟩
  rw [hV3] at b9c b8c b10c b6c btc hb3a gr2 ht4c ht6c ⊢
  clear hV3
  -- z.Name
  obtain ⟨Z, hZ⟩ : ∃ Z : ByteArray, Z = ⟨#[48, 48, 48, 48, 48, 48, 48, 48, 48, 48, 48, 48, 48, 48, 48, 48, 48, 48, 48, 48, 48, 48, 48, 48, 48, 48, 48, 48, 48, 48, 48, 48]⟩ := ⟨_, rfl⟩
  have hZs : Z.size = 32 := by rw [hZ]; rfl
  rw [← hZ]
  obtain ⟨Z2, hZ2⟩ : ∃ Z2, Z ++ Z = Z2 := ⟨_, rfl⟩
  have hZ2s : Z2.size = 64 := by rw [← hZ2, ByteArray.size_append]; omega
  obtain ⟨Z3, hZ3⟩ : ∃ Z3, Z2 ++ Z = Z3 := ⟨_, rfl⟩
  have hZ3s : Z3.size = 96 := by rw [← hZ3, ByteArray.size_append]; omega
  obtain ⟨Z4, hZ4⟩ : ∃ Z4, Z3 ++ Z = Z4 := ⟨_, rfl⟩
  have hZ4s : Z4.size = 128 := by rw [← hZ4, ByteArray.size_append]; omega
  obtain ⟨Z5, hZ5⟩ : ∃ Z5, Z4 ++ (⟨#[48]⟩ : ByteArray) = Z5 := ⟨_, rfl⟩
  have hZ5s : Z5.size = 129 := by rw [← hZ5, ByteArray.size_append, hZ4s]; rfl
  have a2 : ∀ W : World, (Op.stringOp .add Z Z).run Try.prog W = .ok (.string Z2) W := fun W => by rw [run_string_add_sum _ _ _ (by omega), hZ2]
  have a3 : ∀ W : World, (Op.stringOp .add Z2 Z).run Try.prog W = .ok (.string Z3) W := fun W => by rw [run_string_add_sum _ _ _ (by omega), hZ3]
  have a4 : ∀ W : World, (Op.stringOp .add Z3 Z).run Try.prog W = .ok (.string Z4) W := fun W => by rw [run_string_add_sum _ _ _ (by omega), hZ4]
  have a5 : ∀ W : World, (Op.stringOp .add Z4 ⟨#[48]⟩).run Try.prog W = .ok (.string Z5) W := fun W => by rw [run_string_add_sum _ _ _ (by rw [hZ4s]; show 128 + 1 ≤ _; omega), hZ5]
  have HZ5 := Lib.hid hZ5s
  have k10 : V3.cell? ⟨g8 + 1 + 1, 5, none⟩ = some (.string oneS.name) := b10c.cell 5
  have f10 : V3.frozen? ⟨g8 + 1 + 1, 5, none⟩ = false := b10c.frozen 5
  have b10d : Bk (V3.setCell ⟨g8 + 1 + 1, 5, none⟩ (.string Z5)) (g8 + 1 + 1) 27 (spC { oneS with name := Z5 } A6 1 1) := b10c.set 5 _
  have b8d := b8c.far (p := ⟨g8 + 1 + 1, 5, none⟩) (by show g8 ≠ g8 + 1 + 1; omega) (.string Z5)
  have b9d := b9c.far (p := ⟨g8 + 1 + 1, 5, none⟩) (by show g8 + 1 ≠ g8 + 1 + 1; omega) (.string Z5)
  have b6d := b6c.far (p := ⟨g8 + 1 + 1, 5, none⟩) (by show g6 ≠ g8 + 1 + 1; omega) (.string Z5)
  have btd := btc.far (p := ⟨g8 + 1 + 1, 5, none⟩) (by show gt ≠ g8 + 1 + 1; omega) (.string Z5)
  have hb4a := hb3a.setCell (p := ⟨g8 + 1 + 1, 5, none⟩) (by show _ ≤ g8 + 1 + 1; omega) (.string Z5)
  have ht4d := Rd.set ht4c (p := ⟨g8 + 1 + 1, 5, none⟩) (by show g8 ≤ g8 + 1 + 1; omega) (.string Z5)
  have ht6d := Rd.set ht6c (p := ⟨g8 + 1 + 1, 5, none⟩) (by show g8 ≤ g8 + 1 + 1; omega) (.string Z5)
  clear ht4v ht6v ht4a ht6a ht4b ht6b ht4c ht6c
  clear hZ hZ2 hZ3 hZ4 hZ5 hZs hZ2s hZ3s hZ4s hZ5s b8c b9c b10c b6c btc hb3a
  go_upto_region 11 with fail
  obtain ⟨V4, hV4⟩ : ∃ V4, V3.setCell ⟨g8 + 1 + 1, 5, none⟩ (.string Z5) = V4 := ⟨_, rfl⟩
  rw [hV4] at b10d b8d b9d b6d btd hb4a ht4d ht6d ⊢
  clear hV4 k10 f10 a2 a3 a4 a5 gr1 gr2
  have htd : RbT V4 (gt + 1) (some ⟨gt, 0, none⟩) yS.tags := fun _ => ⟨gt, 0, rfl, by omega, fun j u hu => by
    rw [Nat.zero_add, btd.cell j]
    simpa [tgs, yS] using hu⟩
  have hV4s := hb4a.size
  have hl10 := b10d.lt
  have hlt := btd.lt
  have q60 : V4.cell? ⟨g6, 0, none⟩ = some (.int .u64 1) := b6d.cell 0
  have q61 : V4.cell? ⟨g6, 1, none⟩ = some (.int .u64 255) := b6d.cell 1
  obtain ⟨ki0, ki1, ki2, ki3, ki4, ki5, ki6, ki7, ki8, ki9, ki10⟩ := cells11 b8d
  go_wp2_with fail
  refine (spCheck (A := A4) (c := 1) (n := 1) (B := g8) xS V4 ht4d rfl (by omega) (by decide)).mono ?_
  rintro e V5 ⟨rfl, hb5⟩
  rw [chk_x]
  have b9e := b9d.below hb5 b9d.lt
  have b10e := b10d.below hb5 b10d.lt
  have hte := Rd.below htd (hb5.mono (by omega))
  have ht6e := Rd.below ht6d (hb5.mono (by omega))
  have hb5a := hb4a.trans (hb5.mono hV4s)
  have hV5s := hb5.size
  clear ki0 ki1 ki2 ki3 ki4 ki5 ki6 ki7 ki8 ki9 ki10 q60 q61 b8d b9d b10d b6d btd htd ht4d ht6d hb4a hb5
  obtain ⟨ki0, ki1, ki2, ki3, ki4, ki5, ki6, ki7, ki8, ki9, ki10⟩ := cells11 b9e
  go_wp2_with fail
  refine (spCheck (A := some ⟨gt, 0, none⟩) (c := 2) (n := 2) (B := gt + 1) yS V5 hte rfl (by omega) (by decide)).mono ?_
  rintro e V6 ⟨rfl, hb6⟩
  rw [chk_y]
  have b10f := b10e.below hb6 b10e.lt
  have ht6f := Rd.below ht6e (hb6.mono (by omega))
  have hb6a := hb5a.trans (hb6.mono (by omega))
  have hV6s := hb6.size
  clear ki0 ki1 ki2 ki3 ki4 ki5 ki6 ki7 ki8 ki9 ki10 b9e b10e hte ht6e hb5a hb6
  obtain ⟨ki0, ki1, ki2, ki3, ki4, ki5, ki6, ki7, ki8, ki9, ki10⟩ := cells11 b10f
  go_wp2_with fail
  refine (spCheck (A := A6) (c := 1) (n := 1) (B := g8) { oneS with name := Z5 } V6 ht6f rfl (by omega) (by decide)).mono ?_
  rintro e V7 ⟨rfl, hb7⟩
  rw [chk_z Z5 HZ5.out]
  have hb7a := hb6a.trans (hb7.mono (by omega))
  clear ki0 ki1 ki2 ki3 ki4 ki5 ki6 ki7 ki8 ki9 ki10 b10f ht6f hb6a hb7
  go_wp2
  go_ret
  exact ⟨rfl, hb7a⟩
end Go.Proofs.Ytohnpogoldbplaa
