/- A region that draws its order, whose callees make memory, walked once. -/
import Derived.Deep.QuietTactic
import Derived.BigQuiet
import Derived.Test.YtlamebbolioljaaLib
namespace Go.Proofs.Ytlamebbolioljaa
open Go.RowKit

/-- A world behind W, what lay there as it was. -/
structure BelowBy (W : World) where
  w : World
  h : Below W.heap.size W w
instance (W : World) : Inhabited (BelowBy W) := ⟨⟨W, Below.refl _ _⟩⟩
theorem wp_region_quiet_below {P : Program} {id : Nat} {Q : Exit → Act → World → Prop} {a : Act} {w : World} {l : List Oper} (hm : P.follows .mixedOrders = true) (hB : Region.lexB .any l.toArray = true)
    (h : wpQuiet P l.toArray (fun w' => ∃ p : BelowBy w, w' = p.w) (fun a' => ∀ w', (∃ p : BelowBy w, w' = p.w) → Q .normal a' w') l a) : (Code.region id l.toArray true).wp P Q a w :=
  wp_region_quiet (C := fun w' => ∃ p : BelowBy w, w' = p.w) hm hB ⟨⟨w.drew, below_drewN (Below.refl _ w) 1⟩, rfl⟩ (by simpa using h)
theorem calls_belowBy {P : Program} {f : FuncId} {args : Array Value} {W : World} {v : Value} (p : BelowBy W) (h : Calls P f args p.w fun e w' => e = .returned v ∧ Below p.w.heap.size p.w w') :
    Calls P f args p.w fun e w'' => e = .returned v ∧ ∃ p' : BelowBy W, w'' = p'.w := h.mono fun _ w' ⟨he, hb⟩ => ⟨he, ⟨w', p.h.trans (hb.mono p.h.size)⟩, rfl⟩
end Go.Proofs.Ytlamebbolioljaa
