/- Keys: what parts each kind has; the map of them. -/
import Derived.Test.YtlamebbolioljaaMpI
namespace Go.Proofs.Ytlamebbolioljaa
open Go.RowKit

/-- Which parts each kind has, in the program's own numbers. -/
def kinds : List (Int × List Int) := [(115, [0, 1, 2]), (116, [0, 1]), (105, [3, 6, 0, 1, 2]), (111, [3, 4, 6, 0, 1, 2]), (103, [3, 4, 5, 6, 0, 1, 2]), (100, [3, 7, 6, 0, 1, 2]), (110, [3, 4]), (101, [7, 3, 4])]
def partsOf (k : Int) : Option (List Int) := (kinds.find? fun p => p.1 == k).map (·.2)
def iv (l : List Int) : List Value := l.map (Value.int .i64)
/-- The map's entries, the map being block g. -/
def partsEs (g : Nat) : Array MapEntry := #[⟨.int .i64 115, .slice (some ⟨g + 1, 0, none⟩) 3 3, 0⟩, ⟨.int .i64 116, .slice (some ⟨g + 2, 0, none⟩) 2 2, 1⟩, ⟨.int .i64 105, .slice (some ⟨g + 3, 0, none⟩) 5 5, 2⟩, ⟨.int .i64 111, .slice (some ⟨g + 4, 0, none⟩) 6 6, 3⟩,
  ⟨.int .i64 103, .slice (some ⟨g + 5, 0, none⟩) 7 7, 4⟩, ⟨.int .i64 100, .slice (some ⟨g + 6, 0, none⟩) 6 6, 5⟩, ⟨.int .i64 110, .slice (some ⟨g + 7, 0, none⟩) 2 2, 6⟩, ⟨.int .i64 101, .slice (some ⟨g + 8, 0, none⟩) 3 3, 7⟩]
def partsBl (g : Nat) : List (Nat × Array Value) := [(g + 1, (iv [0, 1, 2]).toArray), (g + 2, (iv [0, 1]).toArray), (g + 3, (iv [3, 6, 0, 1, 2]).toArray), (g + 4, (iv [3, 4, 6, 0, 1, 2]).toArray), (g + 5, (iv [3, 4, 5, 6, 0, 1, 2]).toArray), (g + 6, (iv [3, 7, 6, 0, 1, 2]).toArray), (g + 7, (iv [3, 4]).toArray), (g + 8, (iv [7, 3, 4]).toArray)]
structure PartsAt (w : World) (g : Nat) : Prop where
  mp : Mp w g (partsEs g)
  bl : Bks w g 3 (partsBl g)
theorem PartsAt.bS {w w' : World} {g : Nat} (h : PartsAt w g) (hb : Below w.heap.size w w') : PartsAt w' g := ⟨h.mp.bS hb, h.bl.bS hb⟩
theorem PartsAt.alloc {w : World} {g : Nat} (h : PartsAt w g) (o : Obj) : PartsAt (w.alloc o) g := ⟨h.mp.alloc o, h.bl.alloc o⟩
def PartsPost (w : World) (e : Ending) (w' : World) : Prop := ∃ g, e = .returned (.map (some g)) ∧ PartsAt w' g ∧ w.heap.size ≤ g ∧ Below w.heap.size w w'

theorem zeroS (w : World) : (zeroValue 64).run Try.prog w = .ok (.slice none 0 0) w := by kernel_rfl
set_option maxRecDepth 100000 in
set_option maxHeartbeats 2000000 in
theorem scParts (w : World) : Calls Try.prog 28 #[] w (PartsPost w) := by
  have hmm := @run_makeMap Try.prog
  have hm : Mp (w.alloc (.map #[] 0)) w.heap.size #[] := Mp.new w
  have hz : (w.alloc (.map #[] 0)).heap.size = w.heap.size + 1 := World.size_alloc w _
  have hk : Bks (w.alloc (.map #[] 0)) w.heap.size 3 [] := Bks.nil
  have hbl : Below w.heap.size w (w.alloc (.map #[] 0)) := (Below.refl _ w).alloc (Nat.le_refl _) _
  go_enter Try.func28, Try.ntmps28
  go_wp2_with ((refine wpList_insI _ (by rfl) (.tmp 1) _ _ 65 (by rfl) 3 64 .i64 Try.underlying65 Try.underlying3 w.heap.size _ (by rfl) (hm.alloc _) _ _ (by rfl) (by rfl) (by rfl) ?_)
               intro w' hm2 hg2 hs2
               have hz2 := hs2
               simp [hz] at hz2
               have hk2 := (hk.snoc hz (by omega)).grown hg2
               have hbl2 := (hbl.alloc hbl.size _).trans (grown_below hg2 (by rw [World.size_alloc, hz]; omega) (fun k hk => by cases hk; exact Nat.le_refl _))
               clear hs2 hg2 hm hz hk hbl
               have hm := hm2
               have hz := hz2
               have hk := hk2
               have hbl := hbl2
               clear hm2 hz2 hk2 hbl2)
  go_ret
  exact ⟨w.heap.size, rfl, ⟨hm, hk⟩, Nat.le_refl _, hbl⟩

/-- A lookup in the map of parts. -/
theorem parts_look2 (g : Nat) (k : Int) : ∃ A, (∀ a : Addr, A = some a → g < a.block) ∧ ∀ w, PartsAt w g → Rd w w.heap.size A (iv ((partsOf k).getD [])) ∧
    ∀ c, (Instr.lookup 65 (.map (some g)) (.int .i64 k) c).run Try.prog w = .ok (if c then .tuple #[.slice A ((partsOf k).getD []).length ((partsOf k).getD []).length, .bool (partsOf k).isSome] else .slice A ((partsOf k).getD []).length ((partsOf k).getD []).length) w := by
  have key : ∀ (l : List Int) (i : Nat), (i, (iv l).toArray) ∈ partsBl g → partsOf k = some l → Instr.findNow (.int .i64) (.int .i64 k) (partsEs g).toList 0 = some (some (i - g - 1, .slice (some ⟨i, 0, none⟩) l.length l.length)) → ∃ A, (∀ a : Addr, A = some a → g < a.block) ∧ ∀ w, PartsAt w g → Rd w w.heap.size A (iv ((partsOf k).getD [])) ∧
    ∀ c, (Instr.lookup 65 (.map (some g)) (.int .i64 k) c).run Try.prog w = .ok (if c then .tuple #[.slice A ((partsOf k).getD []).length ((partsOf k).getD []).length, .bool (partsOf k).isSome] else .slice A ((partsOf k).getD []).length ((partsOf k).getD []).length) w := by
    intro l i hi hp hf
    refine ⟨some ⟨i, 0, none⟩, fun a ha => by cases ha; simp only [partsBl, List.mem_cons, Prod.mk.injEq, List.not_mem_nil, or_false] at hi; show g < i; omega, fun w h => ?_⟩
    have hb := (h.bl _ hi).2
    refine ⟨?_, fun c => ?_⟩
    · rw [hp]
      exact fun _ => ⟨i, 0, rfl, hb.lt, fun j u hu => by rw [Nat.zero_add, hb.cell j]; simpa using hu⟩
    · have hl := run_lookI (P := Try.prog) Try.underlying65 Try.underlying3 (zeroS w) h.mp k c hf
      rw [hl, hp]
      rfl
  by_cases h1 : k = 115
  · subst h1; exact key _ (g + 1) (by simp [partsBl]) rfl (by rw [show g + 1 - g - 1 = 0 from by omega]; rfl)
  by_cases h2 : k = 116
  · subst h2; exact key _ (g + 2) (by simp [partsBl]) rfl (by rw [show g + 2 - g - 1 = 1 from by omega]; rfl)
  by_cases h3 : k = 105
  · subst h3; exact key _ (g + 3) (by simp [partsBl]) rfl (by rw [show g + 3 - g - 1 = 2 from by omega]; rfl)
  by_cases h4 : k = 111
  · subst h4; exact key _ (g + 4) (by simp [partsBl]) rfl (by rw [show g + 4 - g - 1 = 3 from by omega]; rfl)
  by_cases h5 : k = 103
  · subst h5; exact key _ (g + 5) (by simp [partsBl]) rfl (by rw [show g + 5 - g - 1 = 4 from by omega]; rfl)
  by_cases h6 : k = 100
  · subst h6; exact key _ (g + 6) (by simp [partsBl]) rfl (by rw [show g + 6 - g - 1 = 5 from by omega]; rfl)
  by_cases h7 : k = 110
  · subst h7; exact key _ (g + 7) (by simp [partsBl]) rfl (by rw [show g + 7 - g - 1 = 6 from by omega]; rfl)
  by_cases h8 : k = 101
  · subst h8; exact key _ (g + 8) (by simp [partsBl]) rfl (by rw [show g + 8 - g - 1 = 7 from by omega]; rfl)
  have hp : partsOf k = none := by
    have e : ∀ m : Int, k ≠ m → (m == k) = false := fun m hm => by rw [beq_eq_false_iff_ne]; exact fun e => hm e.symm
    simp [partsOf, kinds, e _ h1, e _ h2, e _ h3, e _ h4, e _ h5, e _ h6, e _ h7, e _ h8]
  have hf : Instr.findNow (.int .i64) (.int .i64 k) (partsEs g).toList 0 = some none := by
    have e : ∀ m : Int, k ≠ m → (k == m) = false := fun m hm => by rw [beq_eq_false_iff_ne]; exact hm
    simp [partsEs, Instr.findNow, Instr.sameNow, e _ h1, e _ h2, e _ h3, e _ h4, e _ h5, e _ h6, e _ h7, e _ h8]
  refine ⟨none, (fun a h => by cases h), fun w h => ⟨by rw [hp]; exact Rd.nil, fun c => ?_⟩⟩
  have hl := run_lookI (P := Try.prog) Try.underlying65 Try.underlying3 (zeroS w) h.mp k c hf
  rw [hl, hp]
  rfl
theorem parts_look (g : Nat) (k : Int) : ∃ A, ∀ w, PartsAt w g → Rd w w.heap.size A (iv ((partsOf k).getD [])) ∧
    ∀ c, (Instr.lookup 65 (.map (some g)) (.int .i64 k) c).run Try.prog w = .ok (if c then .tuple #[.slice A ((partsOf k).getD []).length ((partsOf k).getD []).length, .bool (partsOf k).isSome] else .slice A ((partsOf k).getD []).length ((partsOf k).getD []).length) w := by
  obtain ⟨A, _, h⟩ := parts_look2 g k
  exact ⟨A, h⟩
end Go.Proofs.Ytlamebbolioljaa
