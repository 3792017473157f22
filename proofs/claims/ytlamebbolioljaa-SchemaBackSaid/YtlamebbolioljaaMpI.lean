/- Maps of integer keys that a call lays out of a literal: one insert, one lookup. -/
import Derived.MapKept
import Derived.ChangeMaps4
import Derived.Test.YtlamebbolioljaaByt
namespace Go.Proofs.Ytlamebbolioljaa
open Go.RowKit Go.MapKept

/-- Block b is just this map. -/
def Mp (w : World) (b : Nat) (es : Array MapEntry) : Prop := w.heap[b]? = some (.map es es.size)
section
variable {w w' : World} {b : Nat} {es : Array MapEntry}
theorem Mp.lt (h : Mp w b es) : b < w.heap.size := (Array.getElem?_eq_some_iff.1 h).1
theorem Mp.new (w : World) : Mp (w.alloc (.map #[] 0)) w.heap.size #[] := heap_alloc_new w _
theorem Mp.alloc (h : Mp w b es) (o : Obj) : Mp (w.alloc o) b es := (Below.heap_alloc w o b h.lt).trans h
theorem Mp.drewN (h : Mp w b es) (n : Nat) : Mp (w.drewN n) b es := h
theorem Mp.below {B : Nat} (h : Mp w b es) (hb : Below B w w') (hg : b < B) : Mp w' b es := (hb.block b hg).trans h
theorem Mp.bS (h : Mp w b es) (hb : Below w.heap.size w w') : Mp w' b es := h.below hb h.lt
end
theorem Bk.bS {w w' : World} {g : Nat} {t : TypeId} {cs : Array Value} (h : Bk w g t cs) (hb : Below w.heap.size w w') : Bk w' g t cs := h.below hb h.lt
/-- Blocks behind g, each just these cells. -/
def Bks (w : World) (g : Nat) (t : TypeId) (L : List (Nat × Array Value)) : Prop := ∀ p ∈ L, g < p.1 ∧ Bk w p.1 t p.2
section
variable {w w' : World} {g : Nat} {t : TypeId} {L : List (Nat × Array Value)}
theorem Bks.nil : Bks w g t [] := fun _ h => by cases h
theorem Bks.alloc (h : Bks w g t L) (o : Obj) : Bks (w.alloc o) g t L := fun p hp => ⟨(h p hp).1, (h p hp).2.alloc o⟩
theorem Bks.grown (h : Bks w g t L) (hg : w.grownBy w' (some g)) : Bks w' g t L := fun p hp => ⟨(h p hp).1, (h p hp).2.grown hg (fun e => by have := (h p hp).1; have := Option.some.inj e; omega)⟩
theorem Bks.bS (h : Bks w g t L) (hb : Below w.heap.size w w') : Bks w' g t L := fun p hp => ⟨(h p hp).1, (h p hp).2.below hb (h p hp).2.lt⟩
theorem Bks.snoc (h : Bks w g t L) {k : Nat} {cs : Array Value} (hk : w.heap.size = k) (hg : g < k) : Bks (w.alloc (.cells cs t)) g t (L ++ [(k, cs)]) := fun p hp => by
  rcases List.mem_append.1 hp with hp | hp
  · exact h.alloc _ p hp
  · simp at hp
    subst hp
    subst hk
    exact ⟨hg, Bk.new w t cs⟩
end
theorem isKey_int (q : IntKind) (n : Int) : IsKey (.int q) (.int q n) := by simp [IsKey]
theorem run_insI {P : Program} {w : World} {t k e : TypeId} {q : IntKind} (ht : P.underlying t = some (.map k e)) (hk : P.underlying k = some (.int q)) {b : Nat} {es : Array MapEntry} (hb : Mp w b es) (key : Int) (val : Value) (hf : Instr.findNow (.int q) (.int q key) es.toList 0 = some none) :
    (Instr.mapUpdate t (.map (some b)) (.int q key) val).run P w = .ok () { w with heap := w.heap.setIfInBounds b (.map (es.push ⟨.int q key, val, es.size⟩) (es.size + 1)) } := by
  simp [Instr.mapUpdate, run_underlying ht, MapKept.run_getObj_map (show w.heap[b]? = _ from hb), MapKept.run_checkKey hk (isKey_int q key), MapKept.run_findKey hk hf, MapKept.run_setObj_map _ (show w.heap[b]? = _ from hb), Result.andThen]
theorem wpList_insI {P : Program} (w : World) {ops : Array Oper} {rest : List Oper} {o : Oper} {a : Act} {Q : Exit → Act → World → Prop}
    (hg : o.guard = none) (m x v : Operand) (t : TypeId) (hop : o.op = Op.insert t m x v)
    (k e : TypeId) (q : IntKind) (ht : P.underlying t = some (.map k e)) (hk : P.underlying k = some (.int q)) (b : Nat) (es : Array MapEntry)
    (hm : a.eval m = .map (some b)) (hb : Mp w b es) (key : Int) (val : Value) (hx : a.eval x = .int q key) (hv : a.eval v = val) (hf : Instr.findNow (.int q) (.int q key) es.toList 0 = some none)
    (hK : ∀ w', Mp w' b (es.push ⟨.int q key, val, es.size⟩) → w.grownBy w' (some b) → w'.heap.size = w.heap.size → wpList P ops Q rest (a.put o.dst undef) w') :
    wpList P ops Q (o :: rest) a w := by
  refine wpList_plain hg fun K' hK' => ?_
  have hrun := run_insI ht hk hb key val hf
  unfold Oper.wp
  simp [execOp, hop, hm, hx, hv, hrun, Result.andThen]
  refine hK' _ _ (hK _ ?_ ⟨rfl, rfl, rfl, by simp, fun i _ hne => ?_⟩ (by simp))
  · have := hb.lt
    show (w.heap.setIfInBounds b _)[b]? = _
    simp [this]
  · show (w.heap.setIfInBounds b _)[i]? = _
    rw [Array.getElem?_setIfInBounds, if_neg (fun e => hne (by rw [e]))]
/-- A lookup: what findNow finds. -/
theorem run_lookI {P : Program} {w : World} {t k e : TypeId} {q : IntKind} (ht : P.underlying t = some (.map k e)) (hk : P.underlying k = some (.int q)) {z : Value} (hz : (zeroValue e).run P w = .ok z w) {b : Nat} {es : Array MapEntry} (hb : Mp w b es) (key : Int) (c : Bool) {r : Option (Nat × Value)} (hf : Instr.findNow (.int q) (.int q key) es.toList 0 = some r) :
    (Instr.lookup t (.map (some b)) (.int q key) c).run P w = .ok (if c then .tuple #[(match r with | some x => x.2 | none => z), .bool r.isSome] else (match r with | some x => x.2 | none => z)) w := by
  cases r with
  | none => simp [Instr.lookup, run_underlying ht, MapKept.run_getObj_map (show w.heap[b]? = _ from hb), MapKept.run_checkKey hk (isKey_int q key), MapKept.run_findKey hk hf, hz, Result.andThen]
  | some x => simp [Instr.lookup, run_underlying ht, MapKept.run_getObj_map (show w.heap[b]? = _ from hb), MapKept.run_checkKey hk (isKey_int q key), MapKept.run_findKey hk hf, Result.andThen]
end Go.Proofs.Ytlamebbolioljaa
