/- A byte slice that a call has made: what is known of it. -/
import Derived.Test.YtleghbdkjdpilaaLibT
import Derived.Test.YtleghbdkjdpilaaWrs
namespace Go.Proofs.Ytleghbdkjdpilaa
open Go.RowKit

/-- A byte slice that a call has made. -/
structure BytNew (w : World) (zs : List Int) (A : Option Addr) (c : Nat) (w' : World) : Prop where
  rd : Rb w' w'.heap.size A zs
  bel : Below w.heap.size w w'
  cap : zs.length ≤ c
  nil : A = none → c = 0
  new : ∀ a, A = some a → w.heap.size ≤ a.block
def BytMade (w : World) (zs : List Int) (e : Ending) (w' : World) : Prop := ∃ A c, e = .returned (.slice A zs.length c) ∧ BytNew w zs A c w'
theorem BytNew.of {w w' : World} {zs : List Int} {A : Option Addr} {c : Nat} (h : AppT w.heap.size 5 1 w (.slice none 0 0) w' (.slice A zs.length c) zs.length (bv zs)) : BytNew w zs A c w' := by
  have hb : Below w.heap.size w w' := h.below (Nat.le_refl _) (fun k hk => by cases hk)
  refine ⟨h.own.rd, hb, ?_, ?_, ?_⟩
  · rcases h.own.2 with ⟨h1, h2⟩ | ⟨g, cap, cur, fz, h1, _, _, _, h2, _⟩
    · omega
    · injection h1 with _ _ h3; omega
  · intro e
    subst e
    rcases h.own.2 with ⟨h1, h2⟩ | ⟨g, cap, cur, fz, h1, _⟩
    · injection h1
    · injection h1 with h1; cases h1
  · intro a e
    subst e
    exact (h.own.lt a.block rfl).1
theorem BytMade.ofT {w : World} {zs : List Int} {P : Option Addr → Prop} {e : Ending} {w' : World} (h : RetAppT w.heap.size 5 1 w (.slice none 0 0) zs.length (bv zs) P e w') : BytMade w zs e w' := by
  obtain ⟨A, c, rfl, h, -⟩ := h
  exact ⟨A, c, rfl, .of h⟩
theorem BytMade.ofN {w : World} {zs : List Int} {P : Option Addr → Prop} {e : Ending} {w' : World} (h : RetNew 5 1 w zs.length (bv zs) P e w') : BytMade w zs e w' := by
  obtain ⟨A, c, rfl, h, -⟩ := h
  exact ⟨A, c, rfl, .of ⟨ownsT.of h.own, h.grown, h.block⟩⟩
end Go.Proofs.Ytleghbdkjdpilaa
