/- Texts of the proof of DepsNamesSaid, joined: Sort GrS DeI DeJ DeR DeS DeU DeV. -/
import Derived.Shelf.SlGeneric
import Derived.Shelf.SlSortCmp.WholeK
import Derived.Ground.SlsfProg
import Derived.Test.YthaiplhjekkooaaProg
import Derived.Sort.Grow
import Derived.Test.YthaiplhjekkooaaJDepsNames2
import Derived.Shelf.SlSortCmp.NoneTotal
import Derived.Test.YthaiplhjekkooaaJDepsNames3
import Derived.Test.YthaiplhjekkooaaJDepsNames5
/-
  DERIVED: THE SHELF's CONTRACTS AT THIS DUMP, IN PLAIN WORDS (tools/lay-plain.mjs out of 'TrySort.lean', which tools/lay-shelf.mjs wrote): THE SAME DECLARATIONS UNDER THE SAME NAMES: 'import', 'namespace', 'open', 'def', 'theorem' AND NOTHING ELSE: no command of the shelf's: FOR A HAND-IN. Each laying: the table of numbers ('.._ren') and one theorem, a field a fact of the dump's own or the kernel's comparison; each contract: ONE APPLICATION.
-/
namespace Go.Proofs
open Go.Shelf
def Try.sortEd_ren : Go.Shelf.Ren := ⟨fun | 6 => 52 | 15 => 66 | 14 => 65 | 28 => 82 | 29 => 83 | 20 => 74 | 21 => 75 | 22 => 76 | 23 => 77 | 24 => 78 | 25 => 79 | 26 => 80 | 27 => 81 | 46 => 98 | 47 => 99 | 48 => 100 | 49 => 101 | 50 => 102 | 57 => 106 | n => n, fun | 22 => 25 | 24 => 47 | 25 => 79 | 3 => 3 | 39 => 105 | 0 => 0 | 53 => 121 | 55 => 29 | 4 => 4 | 46 => 114 | 45 => 113 | 50 => 118 | 5 => 5 | 9 => 9 | 66 => 132 | 70 => 136 | 76 => 140 | 77 => 141 | n => n, fun | n => n⟩
theorem Try.sortEd : Go.Proofs.SlLaysF0.n6 Try.prog Try.sortEd_ren := {
  mixed := by kernel_rfl
  f6 := ⟨Try.f52.name, by decide, Try.func52.trans (congrArg some (by kernel_rfl))⟩
  f14 := ⟨Try.f65.name, by decide, Try.func65.trans (congrArg some (by kernel_rfl))⟩
  f15 := Try.func66.trans (congrArg some (by kernel_rfl))
  f20 := ⟨Try.f74.name, by decide, Try.func74.trans (congrArg some (by kernel_rfl))⟩
  f21 := ⟨Try.f75.name, by decide, Try.func75.trans (congrArg some (by kernel_rfl))⟩
  f22 := ⟨Try.f76.name, by decide, Try.func76.trans (congrArg some (by kernel_rfl))⟩
  f23 := ⟨Try.f77.name, by decide, Try.func77.trans (congrArg some (by kernel_rfl))⟩
  f24 := ⟨Try.f78.name, by decide, Try.func78.trans (congrArg some (by kernel_rfl))⟩
  f25 := ⟨Try.f79.name, by decide, Try.func79.trans (congrArg some (by kernel_rfl))⟩
  f26 := ⟨Try.f80.name, by decide, Try.func80.trans (congrArg some (by kernel_rfl))⟩
  f27 := ⟨Try.f81.name, by decide, Try.func81.trans (congrArg some (by kernel_rfl))⟩
  f28 := Try.func82.trans (congrArg some (by kernel_rfl))
  f29 := Try.func83.trans (congrArg some (by kernel_rfl))
  f46 := ⟨Try.f98.name, by decide, Try.func98.trans (congrArg some (by kernel_rfl))⟩
  f47 := Try.func99.trans (congrArg some (by kernel_rfl))
  f48 := Try.func100.trans (congrArg some (by kernel_rfl))
  f49 := ⟨Try.f101.name, by decide, Try.func101.trans (congrArg some (by kernel_rfl))⟩
  f50 := ⟨Try.f102.name, by decide, Try.func102.trans (congrArg some (by kernel_rfl))⟩
  f57 := ⟨Try.f106.name, by decide, Try.func106.trans (congrArg some (by kernel_rfl))⟩
  t0 := Try.underlying0
  a0 := Try.isAgg0
  z0 := Try.sizeOf0
  v0 := Try.zeroValue0
  t3 := Try.underlying3
  a3 := Try.isAgg3
  z3 := Try.sizeOf3
  v3 := Try.zeroValue3
  t4 := Try.underlying4
  a4 := Try.isAgg4
  z4 := Try.sizeOf4
  v4 := Try.zeroValue4
  t5 := Try.underlying5
  a5 := Try.isAgg5
  z5 := Try.sizeOf5
  v5 := Try.zeroValue5
  t9 := Try.underlying9
  a9 := Try.isAgg9
  z9 := Try.sizeOf9
  v9 := Try.zeroValue9
  t22 := Try.underlying25
  a22 := Try.isAgg25
  z22 := Try.sizeOf25
  v22 := Try.zeroValue25
  t25 := Try.underlying79
  a25 := Try.isAgg79
  z25 := Try.sizeOf79
  v25 := Try.zeroValue79
  t39 := Try.underlying105
  a39 := Try.isAgg105
  z39 := Try.sizeOf105
  v39 := Try.zeroValue105
  t45 := Try.underlying113
  a45 := Try.isAgg113
  z45 := Try.sizeOf113
  v45 := Try.zeroValue113
  t46 := Try.underlying114
  a46 := Try.isAgg114
  z46 := Try.sizeOf114
  v46 := Try.zeroValue114
  t50 := Try.underlying118
  a50 := Try.isAgg118
  z50 := Try.sizeOf118
  v50 := Try.zeroValue118
  t53 := Try.underlying121
  a53 := Try.isAgg121
  z53 := Try.sizeOf121
  v53 := Try.zeroValue121
  t55 := Try.underlying29
  a55 := Try.isAgg29
  z55 := Try.sizeOf29
  v55 := Try.zeroValue29
  t66 := Try.underlying132
  a66 := Try.isAgg132
  z66 := Try.sizeOf132
  v66 := Try.zeroValue132
  t70 := Try.underlying136
  a70 := Try.isAgg136
  z70 := Try.sizeOf136
  v70 := Try.zeroValue136
  t76 := Try.underlying140
  a76 := Try.isAgg140
  z76 := Try.sizeOf140
  v76 := Try.zeroValue140
  t77 := Try.underlying141
  a77 := Try.isAgg141
  z77 := Try.sizeOf141
  v77 := Try.zeroValue141 }
end Go.Proofs

/- Draws and new blocks, nothing else; what a sort wants of lists of structs, whatever they are. -/
namespace Go.Proofs.Ythaiplhjekkooaa
open Go.RowKit Go.Shelf Go.Sort

/-- Draws and new blocks, nothing else. -/
structure Gr (w w' : World) : Prop where
  b : Below w.heap.size w w'
  d : w.drawn ≤ w'.drawn
theorem Gr.refl (w : World) : Gr w w := ⟨Below.refl _ _, Nat.le_refl _⟩
theorem Gr.trans {a b c : World} (h : Gr a b) (k : Gr b c) : Gr a c := ⟨h.b.trans (k.b.mono h.b.size), Nat.le_trans h.d k.d⟩
theorem Gr.alloc {a b : World} (h : Gr a b) (o : Obj) : Gr a (b.alloc o) := ⟨h.b.alloc h.b.size o, h.d⟩
theorem Gr.grow {w w' : World} (h : Gr w w') : ∃ q os, w' = Go.Sort.grow (w.drewN q) os := by
  obtain ⟨h1, h2⟩ := h
  obtain ⟨hp, tp, dr, os, out⟩ := w
  obtain ⟨hp', tp', dr', os', out'⟩ := w'
  obtain ⟨e1, e2, e3, e4, e5⟩ := h1
  simp only at e1 e2 e3 e4 e5 h2
  subst e1 e2 e3
  refine ⟨dr' - dr, hp'.extract hp.size hp'.size, ?_⟩
  have hd : dr + (dr' - dr) = dr' := by omega
  have hh : hp ++ hp'.extract hp.size hp'.size = hp' := by
    apply Array.ext_getElem?
    intro i
    by_cases hi : i < hp.size
    · rw [Array.getElem?_append_left hi, e5 i hi]
    · rw [Array.getElem?_append_right (by omega), Array.getElem?_extract]
      by_cases hi2 : i < hp'.size
      · rw [if_pos (by omega), show hp.size + (i - hp.size) = i from by omega]
      · rw [if_neg (by omega), Array.getElem?_eq_none (by omega)]
  simp only [Go.Sort.grow, World.drewN, hd, hh]
theorem Cmp.le {α : Type} {f : α → α → Int} (F : Cmp f) {a b c : α} (h1 : f a b ≤ 0) (h2 : f b c ≤ 0) : f a c ≤ 0 := by
  by_cases e1 : f a b = 0
  · rw [(F.eq a b).1 e1]
    exact h2
  · by_cases e2 : f b c = 0
    · rw [← (F.eq b c).1 e2]
      exact h1
    · have r1 := F.rng a b
      have r2 := F.rng b c
      have := F.tr a b c (by omega) (by omega)
      omega
theorem Cmp.anti {α : Type} {f : α → α → Int} (F : Cmp f) {a b : α} (h1 : f a b ≤ 0) (h2 : f b a ≤ 0) : a = b :=
  (F.eq a b).1 (by have := F.neg a b; omega)
theorem grown_sort {α : Type} [Inhabited α] (enc : α → List Value) (k : Nat) (w : World) (g m : Nat) (dk : Array α) (os : Array Obj) : w.grownBy (sortWorldK enc k w g 0 m dk os) (some g) := by
  refine ⟨rfl, rfl, rfl, size_sortWorldK_c enc k w g 0 m dk os, fun i hi hne => ?_⟩
  have hg : g ≠ i := fun e => hne (by rw [e])
  have hs : i < (putRowK enc k (Sort.ahead w m) g 0 dk).heap.size := by rw [size_putRowK]; exact hi
  show (grow (putRowK enc k (Sort.ahead w m) g 0 dk) os).heap[i]? = _
  rw [grow, Array.getElem?_append_left hs]
  show ((w.heap).modify g _)[i]? = _
  rw [Array.getElem?_modify, if_neg hg]
theorem heap_sortK {α : Type} [Inhabited α] {enc : α → List Value} {k : Nat} {w : World} {g n : Nat} {os : Array Obj} {cur : Array Value} {e : TypeId} {fr : Nat × Nat} (d : Array α) (hb : w.heap[g]? = some (.cells cur e fr)) :
    (sortWorldK enc k w g 0 n d os).heap[g]? = some (.cells (putCells id 0 (flatK enc k d) cur) e fr) := by
  have hg : g < w.heap.size := (Array.getElem?_eq_some_iff.1 hb).1
  unfold sortWorldK putRowK
  rw [heap_grow_old _ _ (by simpa using hg)]
  simp [putRow, mapBlock, Sort.ahead, Array.getElem?_modify, hb, onCells]
theorem take_putCellsK (cur F : Array Value) (h : F.size ≤ cur.size) : (putCells id 0 F cur).toList.take F.size = F.toList := by
  apply List.ext_getElem?
  intro j
  by_cases hj : j < F.size
  · rw [List.getElem?_take_of_lt hj, Array.getElem?_toList]
    simp [putCells, hj, show j < cur.size by omega]
  · rw [List.getElem?_take_eq_none (by omega), List.getElem?_eq_none (by simp; omega)]
end Go.Proofs.Ythaiplhjekkooaa

/- slices.SortFunc of edges. -/
namespace Go.Proofs.Ythaiplhjekkooaa
open Go.RowKit Go.Shelf Go.Sort

theorem swo_ed : SWO (ltOf fun x y : Ed => ekCmp (edK x) (edK y)) where
  irrefl x := by
    have := (ekCmp_cmp.eq (edK x) (edK x)).2 rfl
    simp [ltOf, this]
  trans x y z h1 h2 := by
    simp only [ltOf, decide_eq_true_eq] at *
    have r1 := ekCmp_cmp.rng (edK x) (edK y)
    have r2 := ekCmp_cmp.rng (edK y) (edK z)
    have := ekCmp_cmp.tr (edK x) (edK y) (edK z) (by omega) (by omega)
    omega
  ntrans x y z h1 h2 := by
    simp only [ltOf, decide_eq_false_iff_not] at *
    have n1 := ekCmp_cmp.neg (edK x) (edK y)
    have n2 := ekCmp_cmp.neg (edK y) (edK z)
    have n3 := ekCmp_cmp.neg (edK x) (edK z)
    have := ekCmp_cmp.le (a := edK z) (b := edK y) (c := edK x) (by omega) (by omega)
    omega
theorem flat_eds [Inhabited Ed] (d : Array Ed) : (flatK edC 4 d).toList = eds d.toList := by
  apply List.ext_getElem?
  intro j
  by_cases hj : j < d.size * 4
  · have hj1 : j < (flatK edC 4 d).size := by rw [size_flatK]; exact hj
    have hq : j / 4 < d.size := by omega
    have hm : j % 4 < 4 := Nat.mod_lt _ (by omega)
    have h1 := flatR_get (f := edC) edC_length (l := d.toList) (i := j / 4) (x := d[j / 4]) (by simp [hq]) (j % 4) hm
    rw [show j / 4 * 4 + j % 4 = j from by omega] at h1
    rw [h1, Array.getElem?_toList, Array.getElem?_eq_getElem hj1]
    have h2 := get_flatK edC 4 d j hj
    rw [getElem!_pos _ j hj1, getElem!_pos d (j / 4) hq] at h2
    rw [h2, List.getElem!_eq_getElem?_getD, List.getElem?_eq_getElem (by rw [edC_length]; exact hm)]
    rfl
  · rw [List.getElem?_eq_none (by rw [Array.length_toList, size_flatK]; omega), List.getElem?_eq_none (by rw [eds_length]; simp; omega)]
theorem sizeOf_ed (w : World) : (Go.sizeOf 47).run Try.prog w = .ok 4 w := by
  have h : (Try.prog.info? 47).map (·.size) = some 4 := by kernel_rfl
  cases hq : Try.prog.info? 47 with
  | none => simp [hq] at h
  | some i =>
    have hs : i.size = 4 := by simpa [hq] using h
    simp [sizeOf, typeInfo, Sem.run_bind, hq, hs]
theorem isAgg_ed (w : World) : (isAgg 47).run Try.prog w = .ok true w := by
  unfold isAgg
  rw [Sem.run_bind, run_underlying Try.underlying47 w]
  rfl
/-- slices.SortFunc of edges by compare. -/
def SortEdPost (w : World) (base : Nat) (v : Value) (n : Nat) (l : List Ed) (e : Ending) (w' : World) : Prop :=
  e = .returned (.tuple #[]) ∧ ∃ l', l'.Perm l ∧ SortEd l' ∧ w'.ownsRow base 47 4 v n (eds l') ∧ w.grownBy w' v.ownBlock
set_option maxRecDepth 100000 in
theorem sortEds {base n cap : Nat} {A : Option Addr} {l : List Ed} (w : World) (h : w.ownsRow base 47 4 (.slice A n cap) n (eds l)) (hl : l.length = n) (hn : n < 4611686018427387904) :
    Calls Try.prog 52 #[.slice A n cap, .func (.func 42) #[] #[]] w (SortEdPost w base (.slice A n cap) n l) := by
  rcases h.2 with ⟨h1, h2⟩ | ⟨g, cap', cur, hv, hbase, hb, hnc, hcm, hcs, htk⟩
  · injection h1 with e1 _ e3
    subst e1 e3 h2
    refine (AnyF.slices_SortFunc_none Try.sortEd none 0 _ w).mono ?_
    rintro e w' ⟨rfl, rfl⟩
    have hl : l = [] := List.eq_nil_of_length_eq_zero hl
    subst hl
    exact ⟨rfl, [], List.Perm.refl _, List.Pairwise.nil, h, World.grownBy.refl _ _⟩
  · injection hv with e1 _ e3
    subst e1 e3
    have hgw : g < w.heap.size := (Array.getElem?_eq_some_iff.1 hb).1
    letI : Inhabited Ed := ⟨⟨0, .empty, .empty, 0⟩⟩
    obtain ⟨d, hd⟩ : ∃ d : Array Ed, d.toList = l := ⟨l.toArray, by simp⟩
    have hds : d.size = n := by
      have := congrArg List.length hd
      simpa [hl] using this
    have hfl := flat_eds d
    rw [hd] at hfl
    have hH : HoldsK edC 4 w g 0 d := by
      intro j hj
      have hj1 : (eds l)[j]? = some ((flatK edC 4 d)[j]!) := by
        rw [← hfl, Array.getElem?_toList, Array.getElem?_eq_getElem hj, getElem!_pos _ j hj]
      have h1 := h.cells (g := g) rfl j _ hj1
      rw [Addr.add_lit] at h1
      exact ⟨h1, by simp [World.frozen?, hb]⟩
    have hcmp : CmpLays Try.prog 42 #[] edC 4 (fun x y : Ed => ekCmp (edK x) (edK y)) g 0 d.size w := by
      intro m os dk hs x y
      refine Calls.mono (deCompare x y _) ?_
      rintro e w' ⟨he, hG1, hG2⟩
      exact ⟨he, Gr.grow ⟨hG1, hG2⟩⟩
    have hrun := AnyQ.slices_SortFunc Try.sortEd 4 isAgg_ed sizeOf_ed edC edC_length (fun x => by
      have := edC_one x
      exact fun v hv => this v hv) (fun x y : Ed => ekCmp (edK x) (edK y)) swo_ed 42 #[] g 0 cap d w (fun _ _ => rfl) hcmp hH hgw (by omega)
    rw [hds] at hrun
    refine Calls.mono hrun ?_
    rintro e w' ⟨rfl, d', q, os, hp, hst, rfl⟩
    have hgr := grown_sort edC 4 w g q d' os
    have hs' : d'.size = n := hp.1.trans hds
    have hperm : (d'.toList).Perm d.toList := by
      have := hp.2.2
      rw [show d'.extract 0 n = d' by rw [← hs']; simp, show d.extract 0 n = d by rw [← hds]; simp] at this
      exact this
    have hfl' := flat_eds d'
    refine ⟨rfl, d'.toList, by rw [← hd]; exact hperm, ?_, ?_, hgr⟩
    · rw [SortEd, List.pairwise_iff_getElem]
      intro i j hi hj hij
      simp only [Array.length_toList] at hi hj
      have h1 := hst i j (Nat.zero_le _) hij (by omega)
      rw [getElem!_pos d' i hi, getElem!_pos d' j hj] at h1
      simp only [ltOf, decide_eq_false_iff_not] at h1
      simp only [Array.getElem_toList]
      have h2 := ekCmp_cmp.neg (edK d'[i]) (edK d'[j])
      omega
    · refine ⟨by rw [eds_length]; simp [hs'], .inr ⟨g, cap, _, rfl, hbase, heap_sortK d' hb, hnc, hcm, by simp [putCells, hcs], ?_⟩⟩
      rw [← hfl', show n * 4 = (flatK edC 4 d').size by rw [size_flatK, hs']]
      exact take_putCellsK cur _ (by rw [size_flatK, hs', hcs]; exact Nat.mul_le_mul_right 4 hnc)
end Go.Proofs.Ythaiplhjekkooaa

/- deps: list. -/
namespace Go.Proofs.Ythaiplhjekkooaa
open Go.RowKit Go.MapKept
theorem loadEk_shutJ (a : Addr) : loadVar 71 a = loadK 71 a := rfl
attribute [local go_sem ↓] loadEk_shutJ

def sliceN : Value → Nat
  | .slice _ n _ => n
  | _ => 0
theorem rgOut_length {κ ν : Type} {kv : κ → Value} {vv : ν → Value} {w : World} {b r : Nat} {L : List (κ × ν)} {seen : Array Nat} (h : Rg kv vv w b r L seen) : (rgOut L seen).length = seen.size := by
  have : ∀ s : List Nat, (∀ i ∈ s, i < L.length) → (s.filterMap fun i => L[i]?).length = s.length := by
    intro s
    induction s with
    | nil => intro _; rfl
    | cons i s ih =>
      intro hs
      have hi := hs i (List.mem_cons_self ..)
      rw [List.filterMap_cons, List.getElem?_eq_getElem hi]
      simp only [List.length_cons]
      rw [ih (fun j hj => hs j (List.mem_cons_of_mem _ hj))]
  rw [rgOut, this _ h.lt]
  simp
def ListPost (w : World) (L : List (Ek × Nat)) (e : Ending) (w' : World) : Prop :=
  (∃ p ∈ L, 4611686018427387904 < p.2) ∧ e = .returned (.tuple #[.slice none 0 0, .bool false]) ∧ Below w.heap.size w w' ∨
  (∀ p ∈ L, p.2 ≤ 4611686018427387904) ∧ ∃ A c n l, l.Perm (L.map mkEd) ∧ SortEd l ∧ l.length = n ∧ e = .returned (.tuple #[.slice A n c, .bool true]) ∧ w'.ownsRow w.heap.size 47 4 (.slice A n c) n (eds l) ∧ Below w.heap.size w w'
theorem own_baseJ {w : World} {b b' size n : Nat} {e : TypeId} {v : Value} {xs : List Value} (h : w.ownsRow b e size v n xs) (hb : b' ≤ b) : w.ownsRow b' e size v n xs :=
  ⟨h.1, h.2.imp id fun ⟨g, cap, cur, h1, h2, h3⟩ => ⟨g, cap, cur, h1, Nat.le_trans hb h2, h3⟩⟩
theorem below_grownJ {w w' : World} {k : Option Nat} {B : Nat} (hg : w.grownBy w' k) (hB : B ≤ w.heap.size) (hk : ∀ j, k = some j → B ≤ j) : Below B w w' :=
  ⟨hg.os, hg.tape, hg.output, hg.size, fun i hi => hg.block i (Nat.lt_of_lt_of_le hi hB) (fun e => by have := hk i e.symm; omega)⟩
set_option maxRecDepth 100000 in
set_option maxHeartbeats 4000000 in
theorem deList {b : Nat} {L : List (Ek × Nat)} (w : World) (h : Mg ekV uvV w b L) (hL : L.length ≤ 100000) :
    Calls Try.prog 36 #[.map (some b)] w (ListPost w L) := by
  have hrg := run_mgRange (P := Try.prog) Try.underlying67 h
  have rg0 := Rg.start h
  have hb0 : Below w.heap.size w (w.alloc (.mapIter (some b) L.length #[] L.length)) := (Below.refl _ w).alloc (Nat.le_refl _) _
  have own0 : (w.alloc (.mapIter (some b) L.length #[] L.length)).ownsRow (w.heap.size + 1) 47 4 (.slice none 0 0) 0 [] := World.ownsRow_nil _ _ _ _
  obtain ⟨w1, hw1⟩ : ∃ w1, w.alloc (.mapIter (some b) L.length #[] L.length) = w1 := ⟨_, rfl⟩
  obtain ⟨r, hr⟩ : ∃ r, w.heap.size = r := ⟨_, rfl⟩
  rw [hw1] at hrg rg0 hb0 own0
  rw [hr] at hrg rg0 hb0 own0
  have hbr : b < r := by rw [← hr]; exact h.lt
  have HP := Lib.hid (show ListPost w L = ListPost w L from rfl)
  have HR := Lib.hid hr
  clear hw1 hr h
  go_enter Try.func36, Try.ntmps36
  go_wp2_with fail
  go_loopw [4] (fun out_ wr => ∃ (seen : Array Nat) (m c' : Nat) (A' : Option Addr), out_ = .slice A' m c' ∧ m ≤ L.length ∧ seen.size = m ∧ Rg ekV uvV wr b r L seen ∧ (∀ p ∈ rgOut L seen, p.2 ≤ 4611686018427387904) ∧ wr.ownsRow (r + 1) 47 4 (.slice A' m c') m (eds ((rgOut L seen).map mkEd)) ∧ Below r w wr) (fun out_ _ => L.length - sliceN out_)
  case atStart => exact ⟨#[], 0, 0, none, rfl, Nat.zero_le _, rfl, rg0, (fun p hp => by cases hp), own0, hb0⟩
  case round =>
    obtain ⟨seen, m, c', A', rfl, hm, hsm, hrgw, hall, hown, hbw⟩ := hrel
    rcases hrgw.next (P := Try.prog) 0 with ⟨hperm, hrun⟩ | ⟨k, v, seen', w2, hkv, hrun, hrg2, hout, hsz, hszl, hgr, hhs, hent⟩
    · have hnx : ∀ ty, (Instr.next (.pointer (some ⟨r, 0, none⟩)) false ty).run Try.prog wr = _ := fun _ => hrun
      clear hrun
      have hlen : ((rgOut L seen).map mkEd).length = m := by rw [List.length_map, rgOut_length hrgw, hsm]
      have hso := sortEds wr hown hlen (by omega)
      have hpm := hperm.map mkEd
      have hal : ∀ p ∈ L, p.2 ≤ 4611686018427387904 := fun p hp => hall p (hperm.mem_iff.2 hp)
      have HPM := Lib.hid hpm
      have HAL := Lib.hid hal
      have HBW := Lib.hid hbw
      have HLT := Lib.hid (World.ownsRow.lt hown)
      have HLE := Lib.hid hlen
      clear hpm hal hperm hall hown hbw hlen hrgw
      go_wp2_with fail
      refine hso.mono ?_
      rintro en w3 ⟨rfl, l', hp', hs', hown', hgr'⟩
      go_wp2_with fail
      go_ret2
      refine .inr ⟨HAL.out, A', c', m, l', hp'.trans HPM.out, hs', by rw [hp'.length_eq, HLE.out], rfl, own_baseJ (by rw [HR.out]; exact hown') (Nat.le_succ _), ?_⟩
      rw [HR.out]
      exact HBW.out.trans (below_grownJ hgr' (Nat.le_trans (by have := HR.out; omega) HBW.out.size) (fun j hj => by have := (HLT.out j hj).1; omega))
    · have hnx : ∀ ty, (Instr.next (.pointer (some ⟨r, 0, none⟩)) false ty).run Try.prog wr = _ := fun _ => hrun
      have hen := hent w2 hrg2
      clear hrun
      by_cases hv : 4611686018427387904 < v
      · have hv' : (4611686018427387904 : Int) < (v : Int) := by omega
        have hb2 : Below r w w2 := hbw.trans (below_grownJ hgr (Nat.le_trans (by have := HR.out; omega) hbw.size) (fun j hj => by have := Option.some.inj hj; omega))
        have HB2 := Lib.hid (hb2.alloc (by have := hb2.size; have := HR.out; omega) (.cells (ekA k) 71))
        have HKV := Lib.hid hkv
        clear hb2 hkv hbw hgr hall hown hrgw hrg2 hent hhs
        go_wp2_with fail
        go_ret2
        exact .inl ⟨⟨(k, v), HKV.out, hv⟩, rfl, by rw [HR.out]; exact HB2.out⟩
      · have hv' : decide ((4611686018427387904 : Int) < (v : Int)) = false := by simp; omega
        have hb2 : Below r w w2 := hbw.trans (below_grownJ hgr (Nat.le_trans (by have := HR.out; omega) hbw.size) (fun j hj => by have := Option.some.inj hj; omega))
        have hb3 := hb2.alloc (by have := hb2.size; have := HR.out; omega) (.cells (ekA k) 71)
        have own2 := World.ownsRow.kept hown hgr (.inr fun e => by have := ((World.ownsRow.lt hown) r e).1; omega)
        have own3 := (own2.alloc (.cells (ekA k) 71)).alloc (.cells (edA (mkEd (k, v))) 47)
        have rg3 := hrg2.bS ((Below.refl w2.heap.size w2).alloc (Nat.le_refl _) (.cells (ekA k) 71))
        have hb4 := hb3.alloc (by have := hb3.size; have := HR.out; omega) (.cells (edA (mkEd (k, v))) 47)
        obtain ⟨W3, hW3⟩ : ∃ W3, w2.alloc (.cells (ekA k) 71) = W3 := ⟨_, rfl⟩
        have hW3s : W3.heap.size = w2.heap.size + 1 := by rw [← hW3]; simp
        rw [hW3] at own3 rg3 hb4
        have rg4 := rg3.bS ((Below.refl W3.heap.size W3).alloc (Nat.le_refl _) (.cells (edA (mkEd (k, v))) 47))
        have hrr := hrg2.ltr
        have hrd := Rd.lit W3 (edA (mkEd (k, v))) 47
        rw [hW3s] at hrd
        have HAL2 := Lib.hid (show ∀ p ∈ rgOut L seen', p.2 ≤ 4611686018427387904 from fun p hp => by
          rw [hout] at hp
          rcases List.mem_append.1 hp with hp | hp
          · exact hall p hp
          · simp at hp
            subst hp
            exact Nat.le_of_not_lt hv)
        have HOUT := Lib.hid (show (rgOut L seen').map mkEd = (rgOut L seen).map mkEd ++ [mkEd (k, v)] by rw [hout, List.map_append]; rfl)
        have HW3 := Lib.hid hW3
        have HB4 := Lib.hid hb4
        have HLT := Lib.hid (World.ownsRow.lt own3)
        have HRG := Lib.hid rg4
        have HO3 := Lib.hid own3
        have HRD := Lib.hid hrd
        clear hhs hW3 hb2 hb3 hb4 own2 rg3 rg4 hall hout hown hrgw hent hgr hbw own3 hrd hrg2 hkv
        go_wp2_with (at_builtin; go_loud (rw [HW3.out]; refine wpList_appD _ rfl (.tmp 16) (.tmp 25) rfl (r + 1) _ m ((rgOut L seen).map mkEd) rfl HO3.out _ (some ⟨w2.heap.size + 1, 0, none⟩) 1 1 [mkEd (k, v)] rfl rfl HRD.out (by omega) (by simp; omega) ?_))
        intro A5 c5 w5 hap _
        go_wp2_with fail
        have hb5 : Below r w w5 := HB4.out.trans (hap.below (by simp; omega) (fun j hj => by have := (HLT.out j hj).1; omega))
        exact ⟨⟨seen', m + 1, c5, A5, rfl, by omega, by omega, HRG.out.grown hap.grown (fun e => by have := (HLT.out b e.symm).1; omega) (fun e => by have := (HLT.out r e.symm).1; omega), HAL2.out, by rw [HOUT.out]; exact hap.own, hb5⟩, by simp only [sliceN]; omega⟩
end Go.Proofs.Ythaiplhjekkooaa

/- deps: what adding edges in turn tells; Merge. -/
namespace Go.Proofs.Ythaiplhjekkooaa
open Go.RowKit Go.MapKept
theorem loadEd_shutR (a : Addr) : loadVar 47 a = loadK 47 a := rfl
attribute [local go_sem ↓] loadEd_shutR

/-- What adding edges in turn tells. -/
def addOut (xs : List Ed) : List Ed × Nat := match addAll xs [] with | some o => (o, 0) | none => ([], 3)
theorem addOut_bad {xs : List Ed} (h : ∃ p ∈ mgAll xs [], 4611686018427387904 < p.2) : addOut xs = ([], 3) := by
  have hs := addAll_same (xs := xs) Same.nil (fun e he => by cases he)
  unfold addOut
  cases ha : addAll xs [] with
  | none => rfl
  | some o =>
    rw [ha] at hs
    obtain ⟨p, hp, hlt⟩ := h
    have h1 := hs.2 _ ((hs.1.mem p).1 hp)
    have h2 : (mkEd p).n = p.2 := rfl
    omega
theorem addOut_ok {xs l : List Ed} (h : ∀ p ∈ mgAll xs [], p.2 ≤ 4611686018427387904) (hp : l.Perm ((mgAll xs []).map mkEd)) (hs : SortEd l) : addOut xs = (l, 0) := by
  have hsm := addAll_same (xs := xs) Same.nil (fun e he => by cases he)
  unfold addOut
  cases ha : addAll xs [] with
  | none =>
    rw [ha] at hsm
    obtain ⟨p, hp, hlt⟩ := hsm
    have := h p hp
    omega
  | some o =>
    rw [ha] at hsm
    rw [hsm.1.sorted hp hs]
theorem edChk_two (l : List Ed) : edChk l = 0 ∨ edChk l = 2 := by
  unfold edChk
  split
  · exact .inr rfl
  · exact .inl rfl
/-- What Merge answers. -/
def mergeOut (a b : List Ed) : List Ed × Nat := if edChk a ≠ 0 then ([], 2) else if edChk b ≠ 0 then ([], 2) else addOut (a ++ b)
theorem mergeOut_l {a b : List Ed} (h : edChk a ≠ 0) : mergeOut a b = ([], 2) := if_pos h
theorem mergeOut_r {a b : List Ed} (h : edChk b ≠ 0) : mergeOut a b = ([], 2) := by
  unfold mergeOut
  by_cases h1 : edChk a ≠ 0
  · rw [if_pos h1]
  · rw [if_neg h1, if_pos h]
theorem mergeOut_ok {a b : List Ed} (h : edChk a = 0) (h' : edChk b = 0) : mergeOut a b = addOut (a ++ b) := by
  unfold mergeOut
  rw [if_neg (by simp [h]), if_neg (by simp [h'])]
def catE (a b : List Ed) : Nat → List Ed
  | 0 => []
  | 1 => a
  | _ => a ++ b
def nthE (a b : List Ed) : Nat → List Ed
  | 0 => a
  | _ => b
theorem catE_succ (a b : List Ed) {j : Nat} (h : j < 2) : catE a b (j + 1) = catE a b j ++ nthE a b j := by
  match j, h with
  | 0, _ => simp [catE, nthE]
  | 1, _ => rfl
set_option maxRecDepth 100000 in
set_option maxHeartbeats 8000000 in
theorem deMerge {A1 A2 : Option Addr} {n1 c1 n2 c2 B : Nat} (l1 l2 : List Ed) (w : World) (h1 : RbD w B A1 l1) (h2 : RbD w B A2 l2) (hn1 : l1.length = n1) (hn2 : l2.length = n2) (hB : B ≤ w.heap.size) (hs1 : n1 ≤ 10000) (hs2 : n2 ≤ 10000) :
    Calls Try.prog 20 #[.slice A1 n1 c1, .slice A2 n2 c2] w (EdsPost w (mergeOut l1 l2)) := by
  obtain ⟨r, hr⟩ : ∃ r, mergeOut l1 l2 = r := ⟨_, rfl⟩
  rw [hr]
  have HBAD : Hid (∀ j, j < 2 → edChk (nthE l1 l2 j) ≠ 0 → r = ([], 2)) := Lib.hid fun j hj hne => by
    match j, hj with
    | 0, _ => rw [← hr]; exact mergeOut_l hne
    | 1, _ => rw [← hr]; exact mergeOut_r hne
  have HOK : Hid ((∀ j, j < 2 → edChk (nthE l1 l2 j) = 0) → r = addOut (catE l1 l2 2)) := Lib.hid fun h => by
    rw [← hr]
    exact mergeOut_ok (h 0 (by omega)) (h 1 (by omega))
  have HLL : Hid (∀ j, j < 2 → ∃ Aj nj cj, (#[.slice A1 n1 c1, .slice A2 n2 c2] : Array Value)[j]? = some (.slice Aj nj cj) ∧ (nthE l1 l2 j).length = nj ∧ nj ≤ 10000 ∧ RbD w B Aj (nthE l1 l2 j)) := Lib.hid fun j hj => by
    match j, hj with
    | 0, _ => exact ⟨A1, n1, c1, rfl, hn1, hs1, h1⟩
    | 1, _ => exact ⟨A2, n2, c2, rfl, hn2, hs2, h2⟩
  have HCL : Hid ((catE l1 l2 2).length ≤ 20000) := Lib.hid (by show (l1 ++ l2).length ≤ _; rw [List.length_append]; omega)
  have m0 := Mg.new (kv := ekV) (vv := uvV) w
  have hb0 := (Below.refl w.heap.size w).alloc (Nat.le_refl _) (.map #[] 0)
  obtain ⟨b, hb⟩ : ∃ b, w.heap.size = b := ⟨_, rfl⟩
  obtain ⟨w1, hw1⟩ : ∃ w1, w.alloc (.map #[] 0) = w1 := ⟨_, rfl⟩
  rw [hw1] at m0 hb0
  have hb1 := hb0.alloc hb0.size (.cells #[.slice A1 n1 c1, .slice A2 n2 c2] 25)
  have m1 := m0.alloc (.cells #[.slice A1 n1 c1, .slice A2 n2 c2] 25)
  have bk1 := Bk.new w1 25 #[.slice A1 n1 c1, .slice A2 n2 c2]
  rw [hb] at m1
  have hbg : b < w1.heap.size := by have := m0.lt; rw [hb] at this; exact this
  obtain ⟨g, hg⟩ : ∃ g, w1.heap.size = g := ⟨_, rfl⟩
  have HG2 := Lib.hid (show b + 1 = g by rw [← hg, ← hw1, World.size_alloc, hb])
  obtain ⟨w2, hw2⟩ : ∃ w2, w1.alloc (.cells #[.slice A1 n1 c1, .slice A2 n2 c2] 25) = w2 := ⟨_, rfl⟩
  rw [hw2] at hb1 m1 bk1
  rw [hg] at bk1 hbg
  have HW1 := Lib.hid hw1
  have HW2 := Lib.hid hw2
  have HG := Lib.hid hg
  have HBN := Lib.hid hb
  have HM1 := Lib.hid m1
  have HB1 := Lib.hid hb1
  have HK1 := Lib.hid bk1
  have hwb : w.heap.size ≤ b := by omega
  clear hw1 hw2 hg hb m0 m1 hb0 hb1 bk1 hr h1 h2 hn1 hn2 hs1 hs2
  have hmm := @run_makeMap Try.prog
  go_enter Try.func20, Try.ntmps20
  go_wp2_with fail
  rw [HW1.out, HBN.out, HG2.out, HW2.out]
  go_loopw [19] (fun i_ wr => ∃ j : Nat, j ≤ 2 ∧ i_ = .int .i64 j ∧ Hid (Mg ekV uvV wr b (mgAll (catE l1 l2 j) [])) ∧ Hid (Bk wr g 25 #[.slice A1 n1 c1, .slice A2 n2 c2]) ∧ Hid (Below w.heap.size w wr) ∧ Hid (∀ i, i < j → edChk (nthE l1 l2 i) = 0)) (fun i_ _ => 2 - (intOf i_).toNat)
  case atStart => exact ⟨0, by omega, rfl, HM1, HK1, HB1, Lib.hid (fun i hi => by omega)⟩
  case round =>
    obtain ⟨j, hj, rfl, HM, HK, HB, HC⟩ := hrel
    by_cases hlt : j < 2
    · have hlt' : (j : Int) < 2 := by omega
      obtain ⟨Aj, nj, cj, hcj, hnj, hsj, hrd⟩ := HLL.out j hlt
      have hcell : wr.cell? ⟨g, j, none⟩ = some (.slice Aj nj cj) := by rw [HK.out.cell j]; exact hcj
      have cc := deCheck (c := cj) (nthE l1 l2 j) wr (Rd.below hrd (HB.out.mono hB)) hnj (Nat.le_trans hB HB.out.size) (by omega)
      have hbadj := HBAD.out j hlt
      have hcat := catE_succ l1 l2 hlt
      have HC2 := Lib.hid (fun (h0 : edChk (nthE l1 l2 j) = 0) i (hi : i < j + 1) => show edChk (nthE l1 l2 i) = 0 by
        rcases Nat.lt_succ_iff_lt_or_eq.1 hi with h | rfl
        · exact HC.out i h
        · exact h0)
      obtain ⟨lj, hlj⟩ : ∃ lj, nthE l1 l2 j = lj := ⟨_, rfl⟩
      rw [hlj] at cc hnj hrd hbadj hcat
      have HCAT := Lib.hid hcat
      have HBJ := Lib.hid hbadj
      have HRD := Lib.hid hrd
      have HNJ := Lib.hid hnj
      have HLJ := Lib.hid hlj
      obtain ⟨ck, hck⟩ : ∃ ck, edChk lj = ck := ⟨_, rfl⟩
      rw [hck] at cc
      have HCK := Lib.hid hck
      clear hcat hbadj hrd hnj hcj hlj hck HC
      go_wp2_with fail
      refine cc.mono ?_
      rintro en w5 ⟨rfl, hb5⟩
      have HB5 := Lib.hid (HB.out.trans (hb5.mono HB.out.size))
      have HM5 := Lib.hid (HM.out.bS hb5)
      have HK5 := Lib.hid (HK.out.below hb5 HK.out.lt)
      clear hb5 cc hcell HB HM HK
      by_cases h0 : ck = 0
      · subst h0
        go_wp2_with fail
        go_loopw [30] (fun i_ wr2 => ∃ i : Nat, i ≤ nj ∧ i_ = .int .i64 i ∧ Hid (Mg ekV uvV wr2 b (mgAll (catE l1 l2 j ++ lj.take i) [])) ∧ Hid (Bk wr2 g 25 #[.slice A1 n1 c1, .slice A2 n2 c2]) ∧ Hid (Below w.heap.size w wr2)) (fun i_ _ => nj - (intOf i_).toNat)
        case atStart => exact ⟨0, by omega, rfl, Lib.hid (by rw [List.take_zero, List.append_nil]; exact HM5.out), HK5, HB5⟩
        case round =>
          obtain ⟨i, hi, rfl, HM, HK, HB⟩ := hrel
          by_cases hij : i < nj
          · have hij' : (i : Int) < (nj : Int) := by omega
            obtain ⟨x, hx⟩ : ∃ x, lj[i]? = some x := ⟨_, List.getElem?_eq_getElem (by rw [HNJ.out]; exact hij)⟩
            obtain ⟨ob, oo, eA, hbb, hcl⟩ := RbD.at (Rd.below HRD.out (HB.out.mono hB)) hx
            subst eA
            have hld := loadK_ed hcl
            have HB6 := Lib.hid (HB.out.alloc HB.out.size (.cells (edA x) 47))
            have HM6 := Lib.hid (HM.out.alloc (.cells (edA x) 47))
            have HK6 := Lib.hid (HK.out.alloc (.cells (edA x) 47))
            have HX := Lib.hid hx
            have hst : mgAll (catE l1 l2 j ++ lj.take (i + 1)) [] = addK (edK x) x.n (mgAll (catE l1 l2 j ++ lj.take i) []) := by
              rw [take_snoc hx, ← List.append_assoc, mgAll_snoc]
            have HST := Lib.hid hst
            clear hx hcl hst HB HM HK
            go_wp2_with fail
            refine (deAdd ⟨x.b, x.f, x.t⟩ x.n _ HM6.out).mono ?_
            rintro en w9 ⟨rfl, hE9, hg9, hs9⟩
            go_wp2_with fail
            exact ⟨⟨i + 1, by omega, by go_num, Lib.hid (by rw [HST.out]; exact hE9), Lib.hid ((hg9.block g (HK6.out.lt) (fun e => by have := Option.some.inj e; omega)).trans HK6.out), Lib.hid (HB6.out.trans (below_grownJ hg9 HB6.out.size (fun k hk => by have := Option.some.inj hk; omega)))⟩, by simp only [intOf]; omega⟩
          · have hij' : decide ((i : Int) < (nj : Int)) = false := by simp; omega
            obtain rfl : i = nj := by omega
            have hm := HM.out
            rw [List.take_of_length_le (by rw [HNJ.out]; exact Nat.le_refl _), ← HCAT.out] at hm
            have HMM := Lib.hid hm
            clear hm HM
            go_wp2_with fail
            exact ⟨⟨j + 1, by omega, by go_num, HMM, HK, HB, Lib.hid (HC2.out (by rw [HLJ.out]; exact HCK.out))⟩, by simp only [intOf]; omega⟩
      · have h0' : ((ck : Int) != 0) = true := by simp; omega
        have hre : r = ([], ck) := by
          rcases edChk_two lj with h | h
          · exact absurd (HCK.out.symm.trans h) h0
          · rw [HCK.out] at h
            rw [h]
            exact HBJ.out (by rw [HCK.out]; exact h0)
        subst hre
        go_wp2_with fail
        go_ret2
        exact EdsPost.no HB5.out
    · have hlt' : decide ((j : Int) < 2) = false := by simp; omega
      obtain rfl : j = 2 := by omega
      have hro := HOK.out HC.out
      have HRO := Lib.hid hro
      have hll : (mgAll (catE l1 l2 2) []).length ≤ 20000 := by
        have h1 := mgAll_len (catE l1 l2 2) []
        have h2 := HCL.out
        simp at h1
        omega
      have hli := deList wr HM.out (by omega)
      clear hro hll HM HC
      obtain ⟨xs, hxs⟩ : ∃ xs, catE l1 l2 2 = xs := ⟨_, rfl⟩
      rw [hxs] at HRO hli
      clear hxs hlt hlt'
      go_wp2_with fail
      refine hli.mono ?_
      rintro en w8 (⟨hbad, rfl, hb8⟩ | ⟨hok, A8, c8, n8, out, hperm, hsort, hlen8, rfl, hown, hb8⟩)
      · have hre : r = ([], 3) := by rw [HRO.out]; exact addOut_bad hbad
        subst hre
        go_wp2_with fail
        go_ret2
        exact EdsPost.no (HB.out.trans (hb8.mono HB.out.size))
      · have hre : r = (out, 0) := by rw [HRO.out]; exact addOut_ok hok hperm hsort
        subst hre
        go_wp2_with fail
        go_ret2
        subst hlen8
        exact ⟨A8, c8, rfl, own_baseJ hown HB.out.size, HB.out.trans (hb8.mono HB.out.size)⟩
end Go.Proofs.Ythaiplhjekkooaa

/- deps: Between. -/
namespace Go.Proofs.Ythaiplhjekkooaa
open Go.RowKit Go.MapKept
theorem loadEd_shutS (a : Addr) : loadVar 47 a = loadK 47 a := rfl
attribute [local go_sem ↓] loadEd_shutS

/-- An edge over some buckets. -/
def betE (p q : Nat) (x : Ed) : Option Ed := if p ≤ x.b ∧ x.b ≤ q then some ⟨0, x.f, x.t, x.n⟩ else none
/-- What Between answers. -/
def betOut (l : List Ed) (p q : Nat) : List Ed × Nat := if edChk l ≠ 0 then ([], 2) else addOut (l.filterMap (betE p q))
set_option maxRecDepth 100000 in
set_option maxHeartbeats 8000000 in
theorem deBetween {A : Option Addr} {n c B : Nat} (l : List Ed) (p q : Nat) (w : World) (h : RbD w B A l) (hn : l.length = n) (hB : B ≤ w.heap.size) (hs : n ≤ 10000) :
    Calls Try.prog 21 #[.slice A n c, .int .u64 p, .int .u64 q] w (EdsPost w (betOut l p q)) := by
  have cc := deCheck (c := c) l w h hn hB (by omega)
  obtain ⟨r, hr⟩ : ∃ r, betOut l p q = r := ⟨_, rfl⟩
  rw [hr]
  rw [betOut] at hr
  have h2 := edChk_two l
  obtain ⟨ck, hck⟩ : ∃ ck, edChk l = ck := ⟨_, rfl⟩
  rw [hck] at cc hr h2
  have HR := Lib.hid hr
  have HN := Lib.hid hn
  have HH := Lib.hid h
  clear hr hn h hck
  have hmm := @run_makeMap Try.prog
  go_enter Try.func21, Try.ntmps21
  go_wp2_with fail
  refine cc.mono ?_
  rintro en w5 ⟨rfl, hb5⟩
  by_cases h0 : ck = 0
  · subst h0
    have HRO := Lib.hid (show addOut (l.filterMap (betE p q)) = r by rw [← HR.out, if_neg (by simp)])
    have m0 := Mg.new (kv := ekV) (vv := uvV) w5
    have hb0 := hb5.alloc hb5.size (.map #[] 0)
    obtain ⟨b, hb⟩ : ∃ b, w5.heap.size = b := ⟨_, rfl⟩
    have hwb : w.heap.size ≤ b := by rw [← hb]; exact hb5.size
    obtain ⟨w1, hw1⟩ : ∃ w1, w5.alloc (.map #[] 0) = w1 := ⟨_, rfl⟩
    rw [hw1] at m0 hb0
    rw [hb] at m0
    have HW1 := Lib.hid hw1
    have HBN := Lib.hid hb
    have HM0 := Lib.hid m0
    have HB0 := Lib.hid hb0
    clear hw1 hb m0 hb0 HR h2 cc hb5
    go_wp2_with fail
    rw [HW1.out, HBN.out]
    go_loopw [22] (fun i_ wr => ∃ i : Nat, i ≤ n ∧ i_ = .int .i64 i ∧ Hid (Mg ekV uvV wr b (mgAll ((l.take i).filterMap (betE p q)) [])) ∧ Hid (Below w.heap.size w wr)) (fun i_ _ => n - (intOf i_).toNat)
    case atStart => exact ⟨0, by omega, rfl, HM0, HB0⟩
    case round =>
      obtain ⟨i, hi, rfl, HM, HB⟩ := hrel
      by_cases hij : i < n
      · have hij' : (i : Int) < (n : Int) := by omega
        obtain ⟨x, hx⟩ : ∃ x, l[i]? = some x := ⟨_, List.getElem?_eq_getElem (by rw [HN.out]; exact hij)⟩
        obtain ⟨ob, oo, eA, hbb, hcl⟩ := RbD.at (Rd.below HH.out (HB.out.mono hB)) hx
        subst eA
        have hld := loadK_ed hcl
        have HB6 := Lib.hid (HB.out.alloc HB.out.size (.cells (edA x) 47))
        have HM6 := Lib.hid (HM.out.alloc (.cells (edA x) 47))
        have hst : ∀ o, betE p q x = o → mgAll ((l.take (i + 1)).filterMap (betE p q)) [] = match o with | some e => addK (edK e) e.n (mgAll ((l.take i).filterMap (betE p q)) []) | none => mgAll ((l.take i).filterMap (betE p q)) [] := fun o ho => by
          rw [take_snoc hx, List.filterMap_append]
          cases o with
          | none => rw [show [x].filterMap (betE p q) = [] by simp [ho], List.append_nil]
          | some e => rw [show [x].filterMap (betE p q) = [e] by simp [ho], mgAll_snoc]
        have HST := Lib.hid hst
        clear hx hcl hst HB HM
        by_cases h1 : p ≤ x.b
        · have h1' : (p : Int) ≤ (x.b : Int) := by omega
          by_cases h2 : x.b ≤ q
          · have h2' : (x.b : Int) ≤ (q : Int) := by omega
            have HS2 := Lib.hid (HST.out (some ⟨0, x.f, x.t, x.n⟩) (by rw [betE, if_pos ⟨h1, h2⟩]))
            go_wp2_with fail
            refine (deAdd ⟨0, x.f, x.t⟩ x.n _ HM6.out).mono ?_
            rintro en w9 ⟨rfl, hE9, hg9, hs9⟩
            go_wp2_with fail
            exact ⟨⟨i + 1, by omega, by go_num, Lib.hid (by rw [HS2.out]; exact hE9), Lib.hid (HB6.out.trans (below_grownJ hg9 HB6.out.size (fun k hk => by have := Option.some.inj hk; omega)))⟩, by simp only [intOf]; omega⟩
          · have h2' : decide ((x.b : Int) ≤ (q : Int)) = false := by simp; omega
            have HS2 := Lib.hid (HST.out none (by rw [betE, if_neg (fun h => h2 h.2)]))
            go_wp2_with fail
            exact ⟨⟨i + 1, by omega, by go_num, Lib.hid (by rw [HS2.out]; exact HM6.out), HB6⟩, by simp only [intOf]; omega⟩
        · have h1' : decide ((p : Int) ≤ (x.b : Int)) = false := by simp; omega
          have HS2 := Lib.hid (HST.out none (by rw [betE, if_neg (fun h => h1 h.1)]))
          go_wp2_with fail
          exact ⟨⟨i + 1, by omega, by go_num, Lib.hid (by rw [HS2.out]; exact HM6.out), HB6⟩, by simp only [intOf]; omega⟩
      · have hij' : decide ((i : Int) < (n : Int)) = false := by simp; omega
        obtain rfl : i = n := by omega
        have hm := HM.out
        rw [List.take_of_length_le (by rw [HN.out]; exact Nat.le_refl _)] at hm
        have hfl : (l.filterMap (betE p q)).length ≤ 10000 := Nat.le_trans (List.length_filterMap_le _ _) (by rw [HN.out]; omega)
        obtain ⟨xs, hxs⟩ : ∃ xs, l.filterMap (betE p q) = xs := ⟨_, rfl⟩
        rw [hxs] at HRO hm hfl
        have hll := mgAll_len xs []
        simp at hll
        have hli := deList wr hm (by omega)
        clear hm hll hfl hxs hij hij' HM
        go_wp2_with fail
        refine hli.mono ?_
        rintro en w8 (⟨hbad, rfl, hb8⟩ | ⟨hok, A8, c8, n8, out, hperm, hsort, hlen8, rfl, hown, hb8⟩)
        · have hre : r = ([], 3) := by rw [← HRO.out]; exact addOut_bad hbad
          subst hre
          go_wp2_with fail
          go_ret2
          exact EdsPost.no (HB.out.trans (hb8.mono HB.out.size))
        · have hre : r = (out, 0) := by rw [← HRO.out]; exact addOut_ok hok hperm hsort
          subst hre
          go_wp2_with fail
          go_ret2
          subst hlen8
          exact ⟨A8, c8, rfl, own_baseJ hown HB.out.size, HB.out.trans (hb8.mono HB.out.size)⟩
  · have h0' : ((ck : Int) != 0) = true := by simp; omega
    have hre : r = ([], ck) := by
      rcases h2 with h | h
      · exact absurd h h0
      · rw [← HR.out, if_pos h0, h]
    subst hre
    go_wp2_with fail
    go_ret2
    exact EdsPost.no hb5
end Go.Proofs.Ythaiplhjekkooaa

/- Edges merged, plain: sums over keys; what Merge and Between of edges that may be tell. -/
namespace Go.Proofs.Ythaiplhjekkooaa

/-- The calls at the keys that P takes. -/
def totP (P : Ek → Bool) : List Ed → Nat
  | [] => 0
  | e :: l => (if P (edK e) = true then e.n else 0) + totP P l
abbrev tot (l : List Ed) : Nat := totP (fun _ => true) l
theorem totP_append (P : Ek → Bool) : ∀ (a b : List Ed), totP P (a ++ b) = totP P a + totP P b
  | [], b => by simp [totP]
  | e :: a, b => by rw [List.cons_append, totP, totP, totP_append P a b, Nat.add_assoc]
theorem totP_le (P : Ek → Bool) : ∀ (l : List Ed), totP P l ≤ tot l
  | [] => Nat.le_refl _
  | e :: l => by
    have := totP_le P l
    show (if P (edK e) = true then e.n else 0) + totP P l ≤ (if true = true then e.n else 0) + tot l
    rw [if_pos rfl]
    split <;> omega
theorem edNum_le : ∀ (l : List Ed) (k : Ek), edNum l k ≤ tot l
  | [], k => by simp [edNum]
  | e :: l, k => by
    have := edNum_le l k
    rw [edNum_cons]
    show _ ≤ (if true = true then e.n else 0) + tot l
    rw [if_pos rfl]
    split <;> omega
theorem totP_add {P : Ek → Bool} {x : Ed} : ∀ {l : List Ed}, StrEd l → edNum l (edK x) + x.n ≤ 4611686018427387904 → totP P (addE x l).1 = totP P l + (if P (edK x) = true then x.n else 0)
  | [], _, _ => by
    rw [show (addE x []).1 = [x] from rfl]
    simp [totP]
  | a :: l, hs, hn => by
    have hs2 := (List.pairwise_cons.1 hs).2
    rw [addE_cons]
    by_cases h1 : edLt a x = true
    · rw [if_pos h1]
      have hne := edLt_ne h1
      rw [edNum_cons, if_neg hne] at hn
      have ih := totP_add (P := P) hs2 hn
      show totP P (a :: (addE x l).1) = _
      rw [totP, ih, totP]
      omega
    · rw [if_neg h1]
      by_cases h2 : edLt x a = true
      · rw [if_pos h2]
        show totP P (x :: a :: l) = _
        rw [totP, Nat.add_comm]
      · rw [if_neg h2]
        have hk := edLt_tri (a := a) (b := x) (by simpa using h1) (by simpa using h2)
        rw [edNum_cons, if_pos hk] at hn
        rw [if_neg (by omega)]
        show totP P (⟨a.b, a.f, a.t, a.n + x.n⟩ :: l) = _
        rw [totP, totP, show edK ⟨a.b, a.f, a.t, a.n + x.n⟩ = edK a from rfl, hk]
        show (if P (edK x) = true then a.n + x.n else 0) + _ = _
        split <;> omega
def keys (l : List Ed) : List Ek := l.map edK
theorem addE_keys {x : Ed} {l : List Ed} (hs : StrEd l) (hn : edNum l (edK x) + x.n ≤ 4611686018427387904) (k : Ek) : k ∈ keys (addE x l).1 ↔ k ∈ keys l ∨ k = edK x := by
  unfold keys
  rw [List.mem_map, List.mem_map]
  constructor
  · rintro ⟨e, he, rfl⟩
    rcases (addE_mem hs hn e).1 he with ⟨h1, _⟩ | h1
    · exact .inl ⟨e, h1, rfl⟩
    · exact .inr (by rw [h1]; rfl)
  · intro h
    by_cases hk : k = edK x
    · exact ⟨_, (addE_mem hs hn _).2 (.inr rfl), by rw [hk]; rfl⟩
    · rcases h with ⟨e, he, rfl⟩ | h
      · exact ⟨e, (addE_mem hs hn e).2 (.inl ⟨he, hk⟩), rfl⟩
      · exact absurd h hk
theorem addE_lenU (x : Ed) (l : List Ed) : (addE x l).1.length ≤ l.length + 1 := by
  have h1 : (l.take (addPos x l) ++ x :: l.drop (addPos x l)).length ≤ l.length + 1 := by
    simp only [List.length_append, List.length_cons, List.length_take, List.length_drop]; omega
  unfold addE
  cases hy : l[addPos x l]? with
  | none => exact h1
  | some y =>
    simp only []
    split
    · exact h1
    · split
      · exact Nat.le_succ _
      · rw [List.length_set]; exact Nat.le_succ _
theorem addAll_tot : ∀ {xs out : List Ed}, StrEd out → tot out + tot xs ≤ 4611686018427387904 →
    ∃ o, addAll xs out = some o ∧ StrEd o ∧ (∀ P, totP P o = totP P out + totP P xs) ∧ (∀ k, k ∈ keys o ↔ k ∈ keys out ∨ k ∈ keys xs) ∧ o.length ≤ out.length + xs.length
  | [], out, hs, _ => ⟨out, rfl, hs, fun P => rfl, fun k => by simp [keys], Nat.le_refl _⟩
  | x :: xs, out, hs, ht => by
    have htx : tot (x :: xs) = x.n + tot xs := by show (if true = true then x.n else 0) + tot xs = _; rw [if_pos rfl]
    have hn : edNum out (edK x) + x.n ≤ 4611686018427387904 := by have := edNum_le out (edK x); omega
    have hadd := fun P => totP_add (P := P) hs hn
    have h2 : tot (addE x out).1 + tot xs ≤ 4611686018427387904 := by
      have := hadd (fun _ => true)
      rw [if_pos rfl] at this
      have e : tot (addE x out).1 = tot out + x.n := this
      omega
    obtain ⟨o, h3, h4, h5, h6, h7⟩ := addAll_tot (xs := xs) (addE_str hs hn) h2
    refine ⟨o, by rw [addAll, addE_flag hs, if_pos (decide_eq_true hn), h3], h4, fun P => ?_, fun k => ?_, ?_⟩
    · rw [h5, hadd, totP]
      omega
    · rw [h6, addE_keys hs hn]
      unfold keys
      rw [List.map_cons, List.mem_cons]
      constructor
      · rintro ((h | h) | h)
        · exact .inl h
        · exact .inr (.inl h)
        · exact .inr (.inr h)
      · rintro (h | h | h)
        · exact .inl (.inl h)
        · exact .inl (.inr h)
        · exact .inr h
    · have := addE_lenU x out
      rw [List.length_cons]
      omega
theorem totP_key : ∀ {l : List Ed}, StrEd l → ∀ k, totP (fun j => decide (j = k)) l = edNum l k
  | [], _, k => by simp [totP, edNum]
  | a :: l, hs, k => by
    obtain ⟨h1, h2⟩ := List.pairwise_cons.1 hs
    rw [totP, edNum_cons, totP_key h2]
    by_cases hk : edK a = k
    · rw [if_pos (decide_eq_true hk), if_pos hk]
      have : edNum l k = 0 := edNum_none fun e he h => edLt_ne (h1 e he) (hk.trans h.symm)
      omega
    · rw [if_neg (by simp [hk]), if_neg hk]
      omega
/-- Sorted lists of the same keys and sums are the same. -/
theorem same_of {l m : List Ed} (hl : StrEd l) (hm : StrEd m) (hk : ∀ k, k ∈ keys l ↔ k ∈ keys m) (ht : ∀ P, totP P l = totP P m) : l = m := by
  have hin : ∀ {l m : List Ed}, StrEd l → StrEd m → (∀ k, k ∈ keys l → k ∈ keys m) → (∀ P, totP P l = totP P m) → ∀ e ∈ l, e ∈ m := by
    intro l m hl hm hk ht e he
    obtain ⟨e', he', hke⟩ := List.mem_map.1 (hk (edK e) (List.mem_map.2 ⟨e, he, rfl⟩))
    have h1 := edNum_mem hl he
    have h2 := edNum_mem hm he'
    have h3 := ht (fun j => decide (j = edK e))
    rw [totP_key hl, totP_key hm] at h3
    rw [hke] at h2
    have h4 : e.n = e'.n := by omega
    rw [← mk_un e, h4, ← hke, mk_un]
    exact he'
  have hnl : l.Nodup := hl.imp fun h e => by rw [e, edLt_irr] at h; cases h
  have hnm : m.Nodup := hm.imp fun h e => by rw [e, edLt_irr] at h; cases h
  have hperm : l.Perm m := (List.perm_ext_iff_of_nodup hnl hnm).2 fun e => ⟨hin hl hm (fun k => (hk k).1) ht e, hin hm hl (fun k => (hk k).2) (fun P => (ht P).symm) e⟩
  exact List.Perm.eq_of_pairwise (le := fun a b => edLt a b = true) (fun a b _ _ h1 h2 => by
    have := edLt_tr h1 h2
    rw [edLt_irr] at this
    cases this) hl hm hperm
theorem edWrong_iff {l : List Ed} {i : Nat} {x : Ed} (hx : l[i]? = some x) : edWrong l i = false ↔ edFine x = true ∧ ∀ k p, i = k + 1 → l[k]? = some p → edLt p x = true := by
  rw [edWrong, hx]
  simp only [Bool.or_eq_false_iff, Bool.not_eq_false']
  refine and_congr Iff.rfl ?_
  cases i with
  | zero => exact ⟨fun _ k p h => (by cases h), fun _ => rfl⟩
  | succ k =>
    simp only []
    constructor
    · intro h k' p hk hp
      cases hk
      rw [hp] at h
      simp only [decide_eq_false_iff_not] at h
      rw [edLt_cmp]
      have := ekCmp_cmp.rng (edK p) (edK x)
      omega
    · intro h
      cases hp : l[k]? with
      | none => rfl
      | some p =>
        have := (edLt_cmp p x).1 (h k p rfl hp)
        simp only [decide_eq_false_iff_not]
        omega
/-- Edges that may be. -/
theorem edChk_iff (l : List Ed) : edChk l = 0 ↔ (∀ e ∈ l, edFine e = true) ∧ StrEd l := by
  have h0 : edChk l = 0 ↔ ∀ i, i < l.length → edWrong l i = false := by
    unfold edChk
    constructor
    · intro h i hi
      cases hw : edWrong l i with
      | false => rfl
      | true => rw [if_pos (edWrong_at hw hi)] at h; cases h
    · intro h
      rw [if_neg]
      intro hw
      rw [edWrongTo, List.any_eq_true] at hw
      obtain ⟨j, hj, hw⟩ := hw
      rw [h j (List.mem_range.1 hj)] at hw
      cases hw
  rw [h0]
  constructor
  · intro h
    refine ⟨fun e he => ?_, ?_⟩
    · obtain ⟨i, hi, hx⟩ := List.getElem_of_mem he
      exact ((edWrong_iff (by rw [List.getElem?_eq_getElem hi, hx])).1 (h i hi)).1
    · have hcons : ∀ k (hk : k + 1 < l.length), edLt (l[k]'(by omega)) l[k + 1] = true := fun k hk =>
        ((edWrong_iff (List.getElem?_eq_getElem hk)).1 (h (k + 1) hk)).2 k _ rfl (List.getElem?_eq_getElem (by omega))
      have hall : ∀ d i (hi : i + d + 1 < l.length), edLt (l[i]'(by omega)) l[i + d + 1] = true := by
        intro d
        induction d with
        | zero => exact fun i hi => hcons i hi
        | succ d ih => exact fun i hi => edLt_tr (ih i (by omega)) (hcons (i + d + 1) hi)
      refine List.pairwise_iff_getElem.2 fun i j hi hj hij => ?_
      obtain ⟨d, rfl⟩ : ∃ d, j = i + d + 1 := ⟨j - i - 1, by omega⟩
      exact hall d i hj
  · rintro ⟨hf, hs⟩ i hi
    refine (edWrong_iff (List.getElem?_eq_getElem hi)).2 ⟨hf _ (List.getElem_mem hi), fun k p hk hp => ?_⟩
    subst hk
    obtain ⟨hk', rfl⟩ := List.getElem?_eq_some_iff.1 hp
    exact List.pairwise_iff_getElem.1 hs k (k + 1) hk' hi (by omega)
theorem edFine_key {x e : Ed} (hx : edFine x = true) (hf : e.f = x.f) (ht : e.t = x.t) (hn : 1 ≤ e.n) : edFine e = true := by
  unfold edFine at hx ⊢
  rw [hf, ht]
  simp only [Bool.and_eq_true, decide_eq_true_eq] at hx ⊢
  exact ⟨hx.1, hn⟩
theorem fine_pos {x : Ed} (hx : edFine x = true) : 1 ≤ x.n := by
  unfold edFine at hx
  simp only [Bool.and_eq_true, decide_eq_true_eq] at hx
  exact hx.2
theorem tot_mem {P : Ek → Bool} : ∀ {l : List Ed} {e : Ed}, e ∈ l → P (edK e) = true → e.n ≤ totP P l
  | [], e, h, _ => by cases h
  | a :: l, e, h, hP => by
    rw [totP]
    rcases List.mem_cons.1 h with rfl | h
    · rw [if_pos hP]; omega
    · have := tot_mem h hP
      omega
/-- All that addOut of fine edges of few calls tells. -/
theorem addOut_fine {xs : List Ed} (hf : ∀ e ∈ xs, edFine e = true) (ht : tot xs ≤ 4611686018427387904) :
    ∃ o, addOut xs = (o, 0) ∧ edChk o = 0 ∧ StrEd o ∧ (∀ P, totP P o = totP P xs) ∧ (∀ k, k ∈ keys o ↔ k ∈ keys xs) ∧ o.length ≤ xs.length := by
  obtain ⟨o, h1, h2, h3, h4, h5⟩ := addAll_tot (xs := xs) (out := []) List.Pairwise.nil (by simpa [totP] using ht)
  have h3' : ∀ P, totP P o = totP P xs := fun P => by rw [h3]; simp [totP]
  have h4' : ∀ k, k ∈ keys o ↔ k ∈ keys xs := fun k => by rw [h4]; simp [keys]
  refine ⟨o, by rw [addOut, h1], (edChk_iff o).2 ⟨fun e he => ?_, h2⟩, h2, h3', h4', by simpa using h5⟩
  obtain ⟨x, hx, hk⟩ := List.mem_map.1 ((h4' (edK e)).1 (List.mem_map.2 ⟨e, he, rfl⟩))
  have hfx := hf x hx
  refine edFine_key hfx (congrArg Ek.f hk).symm (congrArg Ek.t hk).symm ?_
  have e1 := edNum_mem h2 he
  have e2 := totP_key h2 (edK e)
  rw [h3'] at e2
  have e3 := tot_mem (P := fun j => decide (j = edK e)) hx (by rw [hk]; simp)
  have e4 := fine_pos hfx
  omega
/-- Edges that may be, of T calls at most. -/
structure Okl (l : List Ed) (T : Nat) : Prop where
  chk : edChk l = 0
  few : tot l ≤ T
theorem Okl.fine {l : List Ed} {T : Nat} (h : Okl l T) : ∀ e ∈ l, edFine e = true := ((edChk_iff l).1 h.chk).1
theorem Okl.str {l : List Ed} {T : Nat} (h : Okl l T) : StrEd l := ((edChk_iff l).1 h.chk).2
theorem merge_ok {a b : List Ed} {S T : Nat} (ha : Okl a S) (hb : Okl b T) (hst : S + T ≤ 4611686018427387904) :
    ∃ x, mergeOut a b = (x, 0) ∧ Okl x (S + T) ∧ (∀ P, totP P x = totP P a + totP P b) ∧ (∀ k, k ∈ keys x ↔ k ∈ keys a ∨ k ∈ keys b) ∧ x.length ≤ a.length + b.length := by
  have h1 := ha.few
  have h2 := hb.few
  obtain ⟨x, e1, e2, e3, e4, e5, e6⟩ := addOut_fine (xs := a ++ b) (fun e he => (List.mem_append.1 he).elim (ha.fine e) (hb.fine e)) (by rw [tot, totP_append]; simp only [tot] at h1 h2; omega)
  refine ⟨x, by rw [mergeOut_ok ha.chk hb.chk, e1], ⟨e2, by rw [tot, e4, totP_append]; simp only [tot] at h1 h2; omega⟩, fun P => by rw [e4, totP_append], fun k => by rw [e5]; simp [keys], by simpa using e6⟩
def inB (p q : Nat) (k : Ek) : Bool := decide (p ≤ k.b) && decide (k.b ≤ q)
theorem tot_bet (p q : Nat) : ∀ (l : List Ed), tot (l.filterMap (betE p q)) = totP (inB p q) l
  | [] => rfl
  | e :: l => by
    have ih := tot_bet p q l
    by_cases h : p ≤ e.b ∧ e.b ≤ q
    · have hb : inB p q (edK e) = true := by simp [inB, edK, h]
      rw [List.filterMap_cons, betE, if_pos h]
      show (if true = true then e.n else 0) + tot (l.filterMap (betE p q)) = (if inB p q (edK e) = true then e.n else 0) + totP (inB p q) l
      rw [ih, if_pos rfl, if_pos hb]
    · have hb : ¬ inB p q (edK e) = true := by
        intro hc
        rw [inB, Bool.and_eq_true, decide_eq_true_eq, decide_eq_true_eq] at hc
        exact h hc
      rw [List.filterMap_cons, betE, if_neg h]
      show tot (l.filterMap (betE p q)) = (if inB p q (edK e) = true then e.n else 0) + totP (inB p q) l
      rw [ih, if_neg hb, Nat.zero_add]
theorem bet_ok {l : List Ed} {T p q : Nat} (h : Okl l T) (hT : T ≤ 4611686018427387904) : ∃ m, betOut l p q = (m, 0) ∧ Okl m T ∧ tot m = totP (inB p q) l ∧ m.length ≤ l.length := by
  have hfm : ∀ e ∈ l.filterMap (betE p q), edFine e = true := fun e he => by
    obtain ⟨x, hx, hb⟩ := List.mem_filterMap.1 he
    unfold betE at hb
    split at hb
    · cases hb
      exact edFine_key (h.fine x hx) rfl rfl (fine_pos (h.fine x hx))
    · cases hb
  have h1 := tot_bet p q l
  have h2 := totP_le (inB p q) l
  have h3 := h.few
  obtain ⟨m, e1, e2, e3, e4, e5, e6⟩ := addOut_fine hfm (by rw [h1]; omega)
  refine ⟨m, by rw [betOut, if_neg (by simp [h.chk]), e1], ⟨e2, ?_⟩, ?_, Nat.le_trans e6 (List.length_filterMap_le _ _)⟩
  · have := e4 (fun _ => true)
    show totP _ m ≤ T
    rw [this]
    show tot _ ≤ T
    rw [h1]
    omega
  · rw [← h1]
    exact e4 _
theorem merge_comm {a b : List Ed} {S T : Nat} (ha : Okl a S) (hb : Okl b T) (hst : S + T ≤ 4611686018427387904) : mergeOut b a = mergeOut a b := by
  obtain ⟨x, e1, e2, e3, e4, -⟩ := merge_ok ha hb hst
  obtain ⟨y, f1, f2, f3, f4, -⟩ := merge_ok hb ha (by omega)
  rw [e1, f1, same_of f2.str e2.str (fun k => by rw [e4, f4]; exact or_comm) (fun P => by rw [e3, f3, Nat.add_comm])]
theorem merge_assoc {a b c x z : List Ed} {S T U : Nat} (ha : Okl a S) (hb : Okl b T) (hc : Okl c U) (hst : S + T + U ≤ 4611686018427387904) (hx : mergeOut a b = (x, 0)) (hz : mergeOut b c = (z, 0)) : mergeOut a z = mergeOut x c := by
  obtain ⟨x', e1, e2, e3, e4, -⟩ := merge_ok ha hb (by omega)
  obtain ⟨z', f1, f2, f3, f4, -⟩ := merge_ok hb hc (by omega)
  rw [hx] at e1
  rw [hz] at f1
  cases e1
  cases f1
  obtain ⟨p, g1, g2, g3, g4, -⟩ := merge_ok e2 hc (by omega)
  obtain ⟨q, h1, h2, h3, h4, -⟩ := merge_ok ha f2 (by omega)
  rw [g1, h1, same_of h2.str g2.str (fun k => by rw [h4, f4, g4, e4]; exact or_assoc.symm) (fun P => by rw [h3, f3, g3, e3, Nat.add_assoc])]
end Go.Proofs.Ythaiplhjekkooaa

/- deps: the law's few, small, calls. -/
namespace Go.Proofs.Ythaiplhjekkooaa
open Go.RowKit
theorem loadEd_shutV (a : Addr) : loadVar 47 a = loadK 47 a := rfl
attribute [local go_sem ↓] loadEd_shutV

theorem tot_all {M : Nat} : ∀ {l : List Ed}, (∀ e ∈ l, e.n ≤ M) → tot l ≤ l.length * M
  | [], _ => Nat.zero_le _
  | e :: l, h => by
    have h1 := tot_all (l := l) fun x hx => h x (List.mem_cons_of_mem _ hx)
    have h2 := h e (List.mem_cons_self ..)
    show (if true = true then e.n else 0) + tot l ≤ _
    rw [if_pos rfl, List.length_cons, Nat.add_mul]
    omega
theorem RbD.cells {w : World} {B : Nat} {A : Option Addr} {l : List Ed} (h : RbD w B A l) {i : Nat} {e : Ed} (hi : l[i]? = some e) :
    ∃ b o, A = some ⟨b, o, none⟩ ∧ w.cell? ⟨b, o + i * 4, none⟩ = some (.int .u64 e.b) ∧ w.cell? ⟨b, o + i * 4 + 1, none⟩ = some (.string e.f) ∧ w.cell? ⟨b, o + i * 4 + 2, none⟩ = some (.string e.t) ∧ w.cell? ⟨b, o + i * 4 + 3, none⟩ = some (.int .u64 e.n) := by
  obtain ⟨b, o, hA, -, hc⟩ := RbD.at h hi
  refine ⟨b, o, hA, hc 0 (by omega), ?_, ?_, ?_⟩ <;> rw [Nat.add_assoc]
  · exact hc 1 (by omega)
  · exact hc 2 (by omega)
  · exact hc 3 (by omega)
def SmallPost (n : Nat) (w : World) (e : Ending) (w' : World) : Prop := ∃ q, e = .returned (.bool q) ∧ w' = w ∧ (q = true → n ≤ 80)
set_option maxRecDepth 100000 in
set_option maxHeartbeats 2000000 in
theorem lawSmall {A : Option Addr} {n c B : Nat} (l : List Ed) (w : World) (h : RbD w B A l) (hn : l.length = n) (hnl : n ≤ 9223372036854775807) :
    Calls Try.prog 26 #[.slice A n c] w (SmallPost n w) := by
  have HN := Lib.hid hn
  have HH := Lib.hid h
  clear hn h
  go_enter Try.func26, Try.ntmps26
  go_wp2_with fail
  go_loopw [3] (fun i_ wr => ∃ i : Nat, i ≤ n ∧ i ≤ 81 ∧ i_ = .int .i64 i ∧ wr = w) (fun i_ _ => n - (intOf i_).toNat)
  case atStart => exact ⟨0, by omega, by omega, rfl, rfl⟩
  case round =>
    obtain ⟨i, hi, hi81, rfl, rfl⟩ := hrel
    have hfin : Hid (∀ q : Bool, q = decide ((n : Int) ≤ 80) → q = true → n ≤ 80) := Lib.hid fun q hq h => by rw [hq] at h; have := of_decide_eq_true h; omega
    by_cases hlt : i < n
    · have hlt' : (i : Int) < (n : Int) := by omega
      by_cases h80 : i ≤ 80
      · have h80' : (i : Int) ≤ 80 := by omega
        obtain ⟨x, hx⟩ : ∃ x, l[i]? = some x := ⟨_, List.getElem?_eq_getElem (by rw [HN.out]; exact hlt)⟩
        obtain ⟨b, o, eA, -, c1, c2, -⟩ := RbD.cells HH.out hx
        subst eA
        clear hx
        by_cases h1 : (1000 : Int) < (x.f.size : Int)
        · go_wp2_with fail
          go_ret
          exact ⟨false, rfl, rfl, fun h => by cases h⟩
        · have h1' : decide ((1000 : Int) < (x.f.size : Int)) = false := by simp; omega
          by_cases h2 : (1000 : Int) < (x.t.size : Int)
          · go_wp2_with fail
            go_ret
            exact ⟨false, rfl, rfl, fun h => by cases h⟩
          · have h2' : decide ((1000 : Int) < (x.t.size : Int)) = false := by simp; omega
            go_wp2_with fail
            exact ⟨⟨i + 1, by omega, by omega, by go_num, trivial⟩, by simp only [intOf]; omega⟩
      · have h80' : decide ((i : Int) ≤ 80) = false := by simp; omega
        go_wp2_with fail
        go_ret
        exact ⟨_, rfl, rfl, hfin.out _ rfl⟩
    · have hlt' : decide ((i : Int) < (n : Int)) = false := by simp; omega
      go_wp2_with fail
      go_ret
      exact ⟨_, rfl, rfl, hfin.out _ rfl⟩
def FewPost (l : List Ed) (w : World) (e : Ending) (w' : World) : Prop := ∃ q, e = .returned (.bool q) ∧ w' = w ∧ (q = true → l.length ≤ 80 ∧ ∀ e ∈ l, e.n ≤ 1099511627776)
set_option maxRecDepth 100000 in
set_option maxHeartbeats 2000000 in
theorem lawFew {A : Option Addr} {n c B : Nat} (l : List Ed) (w : World) (h : RbD w B A l) (hn : l.length = n) (hnl : n ≤ 9223372036854775807) :
    Calls Try.prog 19 #[.slice A n c] w (FewPost l w) := by
  have HN := Lib.hid hn
  have HH := Lib.hid h
  clear hn h
  go_enter Try.func19, Try.ntmps19
  go_wp2_with fail
  go_loopw [3] (fun i_ wr => ∃ i : Nat, i ≤ n ∧ i ≤ 81 ∧ i_ = .int .i64 i ∧ wr = w ∧ Hid (∀ e ∈ l.take i, e.n ≤ 1099511627776)) (fun i_ _ => n - (intOf i_).toNat)
  case atStart => exact ⟨0, by omega, by omega, rfl, rfl, Lib.hid (fun e he => by simp at he)⟩
  case round =>
    obtain ⟨i, hi, hi81, rfl, rfl, HF⟩ := hrel
    by_cases hlt : i < n
    · have hlt' : (i : Int) < (n : Int) := by omega
      by_cases h80 : i ≤ 80
      · have h80' : (i : Int) ≤ 80 := by omega
        obtain ⟨x, hx⟩ : ∃ x, l[i]? = some x := ⟨_, List.getElem?_eq_getElem (by rw [HN.out]; exact hlt)⟩
        obtain ⟨b, o, eA, -, -, -, c3⟩ := RbD.cells HH.out hx
        subst eA
        have HX := Lib.hid hx
        clear hx
        by_cases h1 : (1099511627776 : Int) < (x.n : Int)
        · go_wp2_with fail
          go_ret
          exact ⟨false, rfl, rfl, fun h => by cases h⟩
        · have h1' : decide ((1099511627776 : Int) < (x.n : Int)) = false := by simp; omega
          go_wp2_with fail
          exact ⟨⟨i + 1, by omega, by omega, by go_num, trivial, Lib.hid (fun e he => by
            rw [take_snoc HX.out] at he
            rcases List.mem_append.1 he with he | he
            · exact HF.out e he
            · rw [List.mem_singleton.1 he]; omega)⟩, by simp only [intOf]; omega⟩
      · have h80' : decide ((i : Int) ≤ 80) = false := by simp; omega
        have cs := lawSmall (c := c) l wr HH.out HN.out hnl
        go_wp2_with fail
        refine cs.mono ?_
        rintro en w2 ⟨q, rfl, rfl, hq⟩
        go_wp2_with fail
        go_ret
        exact ⟨q, rfl, rfl, fun h => absurd (hq h) (by omega)⟩
    · have hlt' : decide ((i : Int) < (n : Int)) = false := by simp; omega
      have cs := lawSmall (c := c) l wr HH.out HN.out hnl
      go_wp2_with fail
      refine cs.mono ?_
      rintro en w2 ⟨q, rfl, rfl, hq⟩
      go_wp2_with fail
      go_ret
      exact ⟨q, rfl, rfl, fun h => ⟨by rw [HN.out]; exact hq h, fun e he => HF.out e (by rw [List.take_of_length_le (by rw [HN.out]; omega)]; exact he)⟩⟩
theorem tot_snoc {l : List Ed} {i : Nat} {x : Ed} (h : l[i]? = some x) : tot (l.take (i + 1)) = tot (l.take i) + x.n := by
  rw [take_snoc h, tot, totP_append]
  show _ + ((if true = true then x.n else 0) + 0) = _
  rw [if_pos rfl]
  rfl
theorem tot_take (l : List Ed) (i : Nat) : tot (l.take i) ≤ tot l := by
  have h : tot (l.take i ++ l.drop i) = tot (l.take i) + tot (l.drop i) := totP_append _ _ _
  rw [List.take_append_drop] at h
  omega
set_option maxRecDepth 100000 in
set_option maxHeartbeats 2000000 in
theorem lawCalls {A : Option Addr} {n c B : Nat} (l : List Ed) (w : World) (h : RbD w B A l) (hn : l.length = n) (hnl : n ≤ 9223372036854775807) (ht : tot l ≤ 18446744073709551615) :
    Calls Try.prog 18 #[.slice A n c] w fun e w' => e = .returned (.int .u64 (tot l)) ∧ w' = w := by
  have HN := Lib.hid hn
  have HH := Lib.hid h
  obtain ⟨r, hr⟩ : ∃ r, tot l = r := ⟨_, rfl⟩
  have HTK := Lib.hid (fun i => show tot (l.take i) ≤ r by rw [← hr]; exact tot_take l i)
  rw [hr] at ht ⊢
  have HR := Lib.hid hr
  clear hn h hr
  go_enter Try.func18, Try.ntmps18
  go_wp2_with fail
  go_loopw [3, 4] (fun s_ i_ wr => ∃ i t : Nat, i ≤ n ∧ i_ = .int .i64 i ∧ s_ = .int .u64 t ∧ wr = w ∧ Hid (tot (l.take i) = t)) (fun _ i_ _ => n - (intOf i_).toNat)
  case atStart => exact ⟨0, 0, by omega, rfl, rfl, rfl, Lib.hid rfl⟩
  case round =>
    obtain ⟨i, t, hi, rfl, rfl, rfl, HT⟩ := hrel
    by_cases hlt : i < n
    · have hlt' : (i : Int) < (n : Int) := by omega
      obtain ⟨x, hx⟩ : ∃ x, l[i]? = some x := ⟨_, List.getElem?_eq_getElem (by rw [HN.out]; exact hlt)⟩
      obtain ⟨b, o, eA, -, -, -, c3⟩ := RbD.cells HH.out hx
      subst eA
      have hs := tot_snoc hx
      rw [HT.out] at hs
      have hk := HTK.out (i + 1)
      rw [hs] at hk
      have hw : IntKind.u64.wrap ((t : Int) + (x.n : Int)) = ((t + x.n : Nat) : Int) := by
        rw [show (t : Int) + (x.n : Int) = ((t + x.n : Nat) : Int) from by omega]
        exact IntWalk.u64_in _ ⟨by omega, by omega⟩
      have HS := Lib.hid hs
      clear hx hs hk
      go_wp2_with fail
      exact ⟨⟨i + 1, t + x.n, by omega, by go_num, rfl, trivial, HS⟩, by simp only [intOf]; omega⟩
    · have hlt' : decide ((i : Int) < (n : Int)) = false := by simp; omega
      obtain rfl : i = n := by omega
      obtain rfl : t = r := by
        have h1 := HT.out
        rw [List.take_of_length_le (by rw [HN.out]; exact Nat.le_refl _)] at h1
        rw [← h1, HR.out]
      go_wp2_with fail
      go_ret
      exact ⟨rfl, rfl⟩
end Go.Proofs.Ythaiplhjekkooaa
