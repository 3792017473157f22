/- deps: add. -/
import Derived.StillTailTactics
import Derived.Laws.Small
import Derived.Maps.AppendAt
import Derived.Test.YthaiplhjekkooaaDeF
namespace Go.Proofs.Ythaiplhjekkooaa
open Go.RowKit Go.MapKept
theorem loadEk_shutG (a : Addr) : loadVar 71 a = loadK 71 a := rfl
attribute [local go_sem ↓] loadEk_shutG
set_option maxRecDepth 100000 in
theorem loadK_ekB {w : World} {g : Nat} {e : Ek} (h : Bk w g 71 (ekA e)) : (loadK 71 ⟨g, 0, none⟩).run Try.prog w = .ok (ekV e) w :=
  run_loadVar_row w g _ _ (ekA e) (0, 0) _ h Try.underlying71 rfl (by rfl)
abbrev uvV (n : Nat) : Value := .int .u64 n
/-- A number more. -/
def addK (k : Ek) (n : Nat) (L : List (Ek × Nat)) : List (Ek × Nat) := mgPut k (min ((mgGet k L).getD 0) 4611686018427387905 + min n 4611686018427387905) L
theorem min_int (a b : Nat) : (if (b : Int) < (a : Int) then (b : Int) else (a : Int)) = ((min a b : Nat) : Int) := by
  split <;> omega
theorem min_intK (a : Nat) : (if (4611686018427387905 : Int) < (a : Int) then (4611686018427387905 : Int) else (a : Int)) = ((min a 4611686018427387905 : Nat) : Int) := by
  split <;> omega
set_option maxRecDepth 100000 in
set_option maxHeartbeats 2000000 in
theorem deAdd {b : Nat} {L : List (Ek × Nat)} (k : Ek) (n : Nat) (w : World) (h : Mg ekV uvV w b L) :
    Calls Try.prog 35 #[.map (some b), ekV k, .int .u64 n] w fun e w' => e = .returned (.tuple #[]) ∧ Mg ekV uvV w' b (addK k n L) ∧ w.grownBy w' (some b) ∧ w.heap.size ≤ w'.heap.size := by
  have hg0 := World.grownBy_alloc w (.cells (ekA k) 71) (some b)
  have hs0 : w.heap.size ≤ (w.alloc (.cells (ekA k) 71)).heap.size := by simp
  have m1 := h.alloc (.cells (ekA k) 71)
  have bk1 := Bk.new w 71 (ekA k)
  obtain ⟨w1, hw1⟩ : ∃ w1, w.alloc (.cells (ekA k) 71) = w1 := ⟨_, rfl⟩
  obtain ⟨g, hg⟩ : ∃ g, w.heap.size = g := ⟨_, rfl⟩
  rw [hw1] at hg0 hs0 m1 bk1
  rw [hg] at bk1
  have hld := loadK_ekB (w := w1.drew) bk1
  have hlk := run_mgLook (z := .int .u64 0) (e := 29) ekRun Try.underlying67 (by simp [Try.zeroValue29]) m1.drew k false
  have hgv : ((mgGet k L).map uvV).getD (.int .u64 0) = .int .u64 ((mgGet k L).getD 0 : Nat) := by
    cases mgGet k L <;> rfl
  simp only [Bool.false_eq_true, if_false, hgv] at hlk
  obtain ⟨R, hR⟩ : ∃ R, addK k n L = R := ⟨_, rfl⟩
  rw [hR]
  rw [addK] at hR
  obtain ⟨old, hold⟩ : ∃ old, (mgGet k L).getD 0 = old := ⟨_, rfl⟩
  rw [hold] at hlk hR
  have e1 := min_intK old
  have e2 := min_intK n
  obtain ⟨p, hp⟩ : ∃ p, min old 4611686018427387905 = p := ⟨_, rfl⟩
  obtain ⟨q, hq⟩ : ∃ q, min n 4611686018427387905 = q := ⟨_, rfl⟩
  rw [hp] at e1 hR
  rw [hq] at e2 hR
  have hwr : IntKind.u64.wrap ((p : Int) + (q : Int)) = ((p + q : Nat) : Int) := by
    rw [show (p : Int) + (q : Int) = ((p + q : Nat) : Int) from by omega]
    exact IntWalk.u64_in _ ⟨by omega, by omega⟩
  have HW := Lib.hid hw1
  have HG := Lib.hid hg
  have HR := Lib.hid hR
  have HM := Lib.hid m1
  have HG0 := Lib.hid hg0
  have HS0 := Lib.hid hs0
  clear hw1 hg hR m1 hp hq hold hg0 hs0 h hgv bk1
  go_enter Try.func35, Try.ntmps35
  go_wp2_with fail
  rw [HW.out, HG.out]
  go_still_tail 9, (by kernel_rfl)
  change wpList _ _ _ _ _ w1.drew
  go_wp2_with (first
    | (refine wpList_mgPut _ rfl (.tmp 6) (.tmp 7) (.tmp 14) 67 rfl ekRun Try.underlying67 b L rfl HM.out.drew k (p + q) rfl rfl ?_
       rintro w3 hm3 hg3 hs3)
    | fail)
  go_end0
  refine ⟨rfl, by rw [← HR.out]; exact hm3, ?_, ?_⟩
  · exact HG0.out.trans ⟨hg3.os, hg3.tape, hg3.output, hg3.size, hg3.block⟩
  · have := HS0.out
    rw [hs3]
    exact this
end Go.Proofs.Ythaiplhjekkooaa
