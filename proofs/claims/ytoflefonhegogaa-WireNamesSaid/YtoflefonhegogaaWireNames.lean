/- The statement WireNames: the chapter's examples come out as it tells. The walk. -/
import Derived.Test.YtoflefonhegogaaLives
import Derived.Test.YtoflefonhegogaaOpen
import Derived.Laws.MakeOwn
namespace Go.Proofs.Ytoflefonhegogaa
open Go.RowKit

theorem numMax : numEnc 18446744073709551615 = [255, 255, 255, 255, 255, 255, 255, 255, 255, 1] := by
  rw [numEnc_ge (x := 18446744073709551615) (by decide), show 18446744073709551615 / 128 = 144115188075855871 from rfl, numEnc_ge (x := 144115188075855871) (by decide), show 144115188075855871 / 128 = 1125899906842623 from rfl, numEnc_ge (x := 1125899906842623) (by decide), show 1125899906842623 / 128 = 8796093022207 from rfl, numEnc_ge (x := 8796093022207) (by decide), show 8796093022207 / 128 = 68719476735 from rfl, numEnc_ge (x := 68719476735) (by decide), show 68719476735 / 128 = 536870911 from rfl, numEnc_ge (x := 536870911) (by decide), show 536870911 / 128 = 4194303 from rfl, numEnc_ge (x := 4194303) (by decide), show 4194303 / 128 = 32767 from rfl, numEnc_ge (x := 32767) (by decide), show 32767 / 128 = 255 from rfl, numEnc_ge (x := 255) (by decide), show 255 / 128 = 1 from rfl, numEnc_lt (x := 1) (by decide)]
  rfl
theorem makeLong : ∃ C : Array Value, ∀ W : World, (Instr.makeSlice 22 (.int .i64 1048577) (.int .i64 1048577)).run Try.prog W = .ok (.slice (some ⟨W.heap.size, 0, none⟩) 1048577 1048577) (W.alloc (.cells C 5)) := by
  obtain ⟨i0, hi0, hz0, hz1, hz2⟩ := info_parts u8info
  exact ⟨_, fun W => run_make W 22 5 i0 _ Try.underlying22 hi0 hz0 .i64 .i64 1048577 1048577 (by decide) (by decide) (by rw [hz2]; decide) (by decide)⟩

set_option maxHeartbeats 1000000 in
theorem wireNames_walk (w : World) :
    Calls Try.prog 4 #[] w fun e w' => e = .returned (.bool true) ∧ Below w.heap.size w w' := by
  obtain ⟨C, hmk⟩ := makeLong
  have hnum := wireNumber (x := 18446744073709551615) (xs := []) w (World.ownsRow_nil w w.heap.size 5 1) (Nat.le_refl _) (by decide) (by omega)
  rw [numMax, List.nil_append] at hnum
  have HN := Lib.hid hnum
  clear hnum
  have hs0 := fun W => wireSize (x := 0) W (by decide)
  have hs1 := fun W => wireSize (x := 127) W (by decide)
  have hs2 := fun W => wireSize (x := 18446744073709551615) W (by decide)
  rw [numMax] at hs2
  rw [numEnc_lt (by omega)] at hs0 hs1
  have S0 := Lib.hid hs0
  have S1 := Lib.hid hs1
  have S2 := Lib.hid hs2
  clear hs0 hs1 hs2
  go_enter Try.func4, Try.ntmps4
  go_wp2_with fail
  refine HN.out.mono ?_
  rintro e w1 ⟨A1, c1, rfl, happ, _⟩
  have hb := happ.below0
  have r1 := happ.rd
  clear happ HN
  go_wp2_with fail
  refine (wirePieceLong _ (by decide) (by decide)).mono ?_
  rintro e w2 ⟨rfl, hw⟩
  subst hw
  replace hb := (hb.alloc hb.size (.cells #[.int .u8 9] 5)).alloc (by have := hb.size; simp; omega) (.cells C 5)
  replace r1 := (r1.allocS (.cells #[.int .u8 9] 5)).allocS (.cells C 5)
  go_wp2_with fail
  refine (lives_true _).mono ?_
  rintro e w3 ⟨rfl, hb3⟩
  replace hb := hb.trans (hb3.mono hb.size)
  replace r1 := r1.belowS hb3
  clear hb3 hmk
  obtain ⟨b, o, rfl, _, hc⟩ := r1 (by simp [bv])
  have c9 : w3.cell? ⟨b, o + 9, none⟩ = some (.int .u8 1) := hc 9 _ rfl
  have c0 : w3.cell? ⟨b, o, none⟩ = some (.int .u8 255) := hc 0 _ rfl
  clear hc r1
  go_wp2_with fail
  refine (S0.out _).mono ?_
  rintro e w4 ⟨rfl, hw⟩
  subst hw
  go_wp2_with fail
  refine (S1.out _).mono ?_
  rintro e w4 ⟨rfl, hw⟩
  subst hw
  go_wp2_with fail
  refine (S2.out _).mono ?_
  rintro e w4 ⟨rfl, hw⟩
  subst hw
  clear S0 S1 S2
  go_wp2
  go_ret
  exact ⟨rfl, hb⟩
end Go.Proofs.Ytoflefonhegogaa
