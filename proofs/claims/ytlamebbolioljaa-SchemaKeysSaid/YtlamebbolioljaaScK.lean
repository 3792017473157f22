/- Keys: the document's parts once more, with where they lie. -/
import Derived.Test.YtlamebbolioljaaScD
namespace Go.Proofs.Ytlamebbolioljaa
open Go.RowKit

def RPartsPost2 (w : World) (k : Int) (e : Ending) (w' : World) : Prop :=
  ∃ A c, e = .returned (.tuple #[.slice A (rl k).length c, .bool (partsOf k).isSome]) ∧ Rd w' w'.heap.size A (iv (rl k)) ∧ Below w.heap.size w w' ∧ (∀ a, A = some a → w.heap.size ≤ a.block)
theorem RPartsPost2.mk {w w' : World} {k : Int} {e : Ending} {A : Option Addr} {c n : Nat} {b : Bool} {l : List Int} (h1 : rl k = l) (h2 : (partsOf k).isSome = b) (hn : l.length = n) (he : e = .returned (.tuple #[.slice A n c, .bool b])) (hr : Rd w' w'.heap.size A (iv l)) (hb : Below w.heap.size w w') (hf : ∀ a, A = some a → w.heap.size ≤ a.block) : RPartsPost2 w k e w' := by
  subst h1 h2 hn
  exact ⟨A, c, he, hr, hb, hf⟩
set_option maxRecDepth 100000 in
set_option maxHeartbeats 4000000 in
theorem refParts2 (k : Int) (w : World) : Calls Try.prog 29 #[.int .i64 k] w (RPartsPost2 w k) := by
  have HB0 : Hid (∀ c1 c2 : Array Value, Below w.heap.size w ((w.alloc (.cells c1 3)).alloc (.cells c2 3))) := fun c1 c2 => ((Below.refl _ w).alloc (Nat.le_refl _) _).alloc (by simp) _
  by_cases h1 : k = 115
  · subst h1
    go_enter Try.func29, Try.ntmps29
    go_wp2
    go_ret2
    exact RPartsPost2.mk (l := [0, 1, 2]) (by decide) (by decide) rfl rfl (by have h := Rd.allocS' (w.alloc (.cells (iv [7, 0, 1, 2]).toArray 3)) [0, 1, 2] _ rfl; simpa [iv] using h) (HB0.out _ _) (fun a ha => by cases ha; simp)
  by_cases h2 : k = 116
  · subst h2
    go_enter Try.func29, Try.ntmps29
    go_wp2
    go_ret2
    exact RPartsPost2.mk (l := [0, 1]) (by decide) (by decide) rfl rfl (by have h := Rd.allocS' (w.alloc (.cells (iv [7, 0, 1, 2]).toArray 3)) [0, 1] _ rfl; simpa [iv] using h) (HB0.out _ _) (fun a ha => by cases ha; simp)
  by_cases h7 : k = 110
  · subst h7
    go_enter Try.func29, Try.ntmps29
    go_wp2
    go_ret2
    exact RPartsPost2.mk (l := [3, 4]) (by decide) (by decide) rfl rfl (by have h := Rd.allocS' (w.alloc (.cells (iv [7, 0, 1, 2]).toArray 3)) [3, 4] _ rfl; simpa [iv] using h) (HB0.out _ _) (fun a ha => by cases ha; simp)
  by_cases h8 : k = 101
  · subst h8
    go_enter Try.func29, Try.ntmps29
    go_wp2
    go_ret2
    exact RPartsPost2.mk (l := [6, 3, 4]) (by decide) (by decide) rfl rfl (by have h := Rd.allocS' (w.alloc (.cells (iv [7, 0, 1, 2]).toArray 3)) [6, 3, 4] _ rfl; simpa [iv] using h) (HB0.out _ _) (fun a ha => by cases ha; simp)
  by_cases h3 : k = 105
  · subst h3
    go_enter Try.func29, Try.ntmps29
    go_wp2_with (at_builtin; go_loud (refine wpList_appI _ rfl (.tmp 15) (.tmp 16) rfl w.heap.size (.slice (some ⟨w.heap.size + 1, 0, none⟩) 1 1) 1 [3] rfl (own2 w _ [3] _ rfl 1 rfl (by omega)) (w.heap.size + 1) _ 4 4 [7, 0, 1, 2] rfl rfl (lit2 w _ _ rfl _) (by omega) (by simp; omega) ?_))
    intro A' c' w' happ
    go_wp2
    go_ret2
    exact RPartsPost2.mk (l := [3, 7, 0, 1, 2]) (by decide) (by decide) rfl rfl happ.rd ((HB0.out _ _).trans (happ.below (by simp; omega) (fun k hk => by simp [Value.ownBlock] at hk; omega))) (fun a ha => by subst ha; exact (happ.own.lt a.block rfl).1)
  by_cases h4 : k = 111
  · subst h4
    go_enter Try.func29, Try.ntmps29
    go_wp2_with (at_builtin; go_loud (refine wpList_appI _ rfl (.tmp 20) (.tmp 21) rfl w.heap.size (.slice (some ⟨w.heap.size + 1, 0, none⟩) 2 2) 2 [3, 4] rfl (own2 w _ [3, 4] _ rfl 2 rfl (by omega)) (w.heap.size + 1) _ 4 4 [7, 0, 1, 2] rfl rfl (lit2 w _ _ rfl _) (by omega) (by simp; omega) ?_))
    intro A' c' w' happ
    go_wp2
    go_ret2
    exact RPartsPost2.mk (l := [3, 4, 7, 0, 1, 2]) (by decide) (by decide) rfl rfl happ.rd ((HB0.out _ _).trans (happ.below (by simp; omega) (fun k hk => by simp [Value.ownBlock] at hk; omega))) (fun a ha => by subst ha; exact (happ.own.lt a.block rfl).1)
  by_cases h5 : k = 103
  · subst h5
    go_enter Try.func29, Try.ntmps29
    go_wp2_with (at_builtin; go_loud (refine wpList_appI _ rfl (.tmp 25) (.tmp 26) rfl w.heap.size (.slice (some ⟨w.heap.size + 1, 0, none⟩) 3 3) 3 [3, 4, 5] rfl (own2 w _ [3, 4, 5] _ rfl 3 rfl (by omega)) (w.heap.size + 1) _ 4 4 [7, 0, 1, 2] rfl rfl (lit2 w _ _ rfl _) (by omega) (by simp; omega) ?_))
    intro A' c' w' happ
    go_wp2
    go_ret2
    exact RPartsPost2.mk (l := [3, 4, 5, 7, 0, 1, 2]) (by decide) (by decide) rfl rfl happ.rd ((HB0.out _ _).trans (happ.below (by simp; omega) (fun k hk => by simp [Value.ownBlock] at hk; omega))) (fun a ha => by subst ha; exact (happ.own.lt a.block rfl).1)
  by_cases h6 : k = 100
  · subst h6
    go_enter Try.func29, Try.ntmps29
    go_wp2_with (at_builtin; go_loud (refine wpList_appI _ rfl (.tmp 30) (.tmp 31) rfl w.heap.size (.slice (some ⟨w.heap.size + 1, 0, none⟩) 2 2) 2 [3, 6] rfl (own2 w _ [3, 6] _ rfl 2 rfl (by omega)) (w.heap.size + 1) _ 4 4 [7, 0, 1, 2] rfl rfl (lit2 w _ _ rfl _) (by omega) (by simp; omega) ?_))
    intro A' c' w' happ
    go_wp2
    go_ret2
    exact RPartsPost2.mk (l := [3, 6, 7, 0, 1, 2]) (by decide) (by decide) rfl rfl happ.rd ((HB0.out _ _).trans (happ.below (by simp; omega) (fun k hk => by simp [Value.ownBlock] at hk; omega))) (fun a ha => by subst ha; exact (happ.own.lt a.block rfl).1)
  have e : ∀ m : Int, k ≠ m → (m == k) = false := fun m hm => by rw [beq_eq_false_iff_ne]; exact fun e => hm e.symm
  have hp : partsOf k = none := by simp [partsOf, kinds, e _ h1, e _ h2, e _ h3, e _ h4, e _ h5, e _ h6, e _ h7, e _ h8]
  have hr : rl k = [] := by rw [rl, hp]; rfl
  have HP := Lib.hid hp
  have HR := Lib.hid hr
  have e' : ∀ m : Int, k ≠ m → (k == m) = false := fun m hm => by rw [beq_eq_false_iff_ne]; exact hm
  have d1 := e' _ h1
  have d2 := e' _ h2
  have d3 := e' _ h3
  have d4 := e' _ h4
  have d5 := e' _ h5
  have d6 := e' _ h6
  have d7 := e' _ h7
  have d8 := e' _ h8
  clear e e' hp hr h1 h2 h3 h4 h5 h6 h7 h8
  go_enter Try.func29, Try.ntmps29
  go_wp2
  go_ret2
  exact RPartsPost2.mk HR.out (by rw [HP.out]; rfl) rfl rfl Rd.nil ((Below.refl _ w).alloc (Nat.le_refl _) _) (fun a h => by cases h)
end Go.Proofs.Ytlamebbolioljaa
