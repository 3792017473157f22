/- Draws and new blocks, nothing else; what a sort wants of lists of structs, whatever they are. -/
import Derived.Sort.Grow
import Derived.Shelf.SlSortCmp.WholeK
import Derived.Test.YthaiplhjekkooaaSpN
namespace Go.Proofs.Ythaiplhjekkooaa
open Go.RowKit Go.Shelf Go.Sort

/-- Draws and new blocks, nothing else. -/
structure Gr (w w' : World) : Prop where
  b : Below w.heap.size w w'
  d : w.drawn ≤ w'.drawn
theorem Gr.refl (w : World) : Gr w w := ⟨Below.refl _ _, Nat.le_refl _⟩
theorem Gr.trans {a b c : World} (h : Gr a b) (k : Gr b c) : Gr a c := ⟨h.b.trans (k.b.mono h.b.size), Nat.le_trans h.d k.d⟩
theorem Gr.alloc {a b : World} (h : Gr a b) (o : Obj) : Gr a (b.alloc o) := ⟨h.b.alloc h.b.size o, h.d⟩
theorem Gr.grow {w w' : World} (h : Gr w w') : ∃ q os, w' = Go.Sort.grow (w.drewN q) os := by
  obtain ⟨h1, h2⟩ := h
  obtain ⟨hp, tp, dr, os, out⟩ := w
  obtain ⟨hp', tp', dr', os', out'⟩ := w'
  obtain ⟨e1, e2, e3, e4, e5⟩ := h1
  simp only at e1 e2 e3 e4 e5 h2
  subst e1 e2 e3
  refine ⟨dr' - dr, hp'.extract hp.size hp'.size, ?_⟩
  have hd : dr + (dr' - dr) = dr' := by omega
  have hh : hp ++ hp'.extract hp.size hp'.size = hp' := by
    apply Array.ext_getElem?
    intro i
    by_cases hi : i < hp.size
    · rw [Array.getElem?_append_left hi, e5 i hi]
    · rw [Array.getElem?_append_right (by omega), Array.getElem?_extract]
      by_cases hi2 : i < hp'.size
      · rw [if_pos (by omega), show hp.size + (i - hp.size) = i from by omega]
      · rw [if_neg (by omega), Array.getElem?_eq_none (by omega)]
  simp only [Go.Sort.grow, World.drewN, hd, hh]
theorem Cmp.le {α : Type} {f : α → α → Int} (F : Cmp f) {a b c : α} (h1 : f a b ≤ 0) (h2 : f b c ≤ 0) : f a c ≤ 0 := by
  by_cases e1 : f a b = 0
  · rw [(F.eq a b).1 e1]
    exact h2
  · by_cases e2 : f b c = 0
    · rw [← (F.eq b c).1 e2]
      exact h1
    · have r1 := F.rng a b
      have r2 := F.rng b c
      have := F.tr a b c (by omega) (by omega)
      omega
theorem Cmp.anti {α : Type} {f : α → α → Int} (F : Cmp f) {a b : α} (h1 : f a b ≤ 0) (h2 : f b a ≤ 0) : a = b :=
  (F.eq a b).1 (by have := F.neg a b; omega)
theorem grown_sort {α : Type} [Inhabited α] (enc : α → List Value) (k : Nat) (w : World) (g m : Nat) (dk : Array α) (os : Array Obj) : w.grownBy (sortWorldK enc k w g 0 m dk os) (some g) := by
  refine ⟨rfl, rfl, rfl, size_sortWorldK_c enc k w g 0 m dk os, fun i hi hne => ?_⟩
  have hg : g ≠ i := fun e => hne (by rw [e])
  have hs : i < (putRowK enc k (Sort.ahead w m) g 0 dk).heap.size := by rw [size_putRowK]; exact hi
  show (grow (putRowK enc k (Sort.ahead w m) g 0 dk) os).heap[i]? = _
  rw [grow, Array.getElem?_append_left hs]
  show ((w.heap).modify g _)[i]? = _
  rw [Array.getElem?_modify, if_neg hg]
theorem heap_sortK {α : Type} [Inhabited α] {enc : α → List Value} {k : Nat} {w : World} {g n : Nat} {os : Array Obj} {cur : Array Value} {e : TypeId} {fr : Nat × Nat} (d : Array α) (hb : w.heap[g]? = some (.cells cur e fr)) :
    (sortWorldK enc k w g 0 n d os).heap[g]? = some (.cells (putCells id 0 (flatK enc k d) cur) e fr) := by
  have hg : g < w.heap.size := (Array.getElem?_eq_some_iff.1 hb).1
  unfold sortWorldK putRowK
  rw [heap_grow_old _ _ (by simpa using hg)]
  simp [putRow, mapBlock, Sort.ahead, Array.getElem?_modify, hb, onCells]
theorem take_putCellsK (cur F : Array Value) (h : F.size ≤ cur.size) : (putCells id 0 F cur).toList.take F.size = F.toList := by
  apply List.ext_getElem?
  intro j
  by_cases hj : j < F.size
  · rw [List.getElem?_take_of_lt hj, Array.getElem?_toList]
    simp [putCells, hj, show j < cur.size by omega]
  · rw [List.getElem?_take_eq_none (by omega), List.getElem?_eq_none (by simp; omega)]
end Go.Proofs.Ythaiplhjekkooaa
