/- slices.SortFunc of edges. -/
import Derived.Shelf.SlSortCmp.NoneTotal
import Derived.Test.YthaiplhjekkooaaSort
import Derived.Test.YthaiplhjekkooaaGrS
import Derived.Test.YthaiplhjekkooaaDeH
namespace Go.Proofs.Ythaiplhjekkooaa
open Go.RowKit Go.Shelf Go.Sort

theorem swo_ed : SWO (ltOf fun x y : Ed => ekCmp (edK x) (edK y)) where
  irrefl x := by
    have := (ekCmp_cmp.eq (edK x) (edK x)).2 rfl
    simp [ltOf, this]
  trans x y z h1 h2 := by
    simp only [ltOf, decide_eq_true_eq] at *
    have r1 := ekCmp_cmp.rng (edK x) (edK y)
    have r2 := ekCmp_cmp.rng (edK y) (edK z)
    have := ekCmp_cmp.tr (edK x) (edK y) (edK z) (by omega) (by omega)
    omega
  ntrans x y z h1 h2 := by
    simp only [ltOf, decide_eq_false_iff_not] at *
    have n1 := ekCmp_cmp.neg (edK x) (edK y)
    have n2 := ekCmp_cmp.neg (edK y) (edK z)
    have n3 := ekCmp_cmp.neg (edK x) (edK z)
    have := ekCmp_cmp.le (a := edK z) (b := edK y) (c := edK x) (by omega) (by omega)
    omega
theorem flat_eds [Inhabited Ed] (d : Array Ed) : (flatK edC 4 d).toList = eds d.toList := by
  apply List.ext_getElem?
  intro j
  by_cases hj : j < d.size * 4
  · have hj1 : j < (flatK edC 4 d).size := by rw [size_flatK]; exact hj
    have hq : j / 4 < d.size := by omega
    have hm : j % 4 < 4 := Nat.mod_lt _ (by omega)
    have h1 := flatR_get (f := edC) edC_length (l := d.toList) (i := j / 4) (x := d[j / 4]) (by simp [hq]) (j % 4) hm
    rw [show j / 4 * 4 + j % 4 = j from by omega] at h1
    rw [h1, Array.getElem?_toList, Array.getElem?_eq_getElem hj1]
    have h2 := get_flatK edC 4 d j hj
    rw [getElem!_pos _ j hj1, getElem!_pos d (j / 4) hq] at h2
    rw [h2, List.getElem!_eq_getElem?_getD, List.getElem?_eq_getElem (by rw [edC_length]; exact hm)]
    rfl
  · rw [List.getElem?_eq_none (by rw [Array.length_toList, size_flatK]; omega), List.getElem?_eq_none (by rw [eds_length]; simp; omega)]
theorem sizeOf_ed (w : World) : (Go.sizeOf 47).run Try.prog w = .ok 4 w := by
  have h : (Try.prog.info? 47).map (·.size) = some 4 := by kernel_rfl
  cases hq : Try.prog.info? 47 with
  | none => simp [hq] at h
  | some i =>
    have hs : i.size = 4 := by simpa [hq] using h
    simp [sizeOf, typeInfo, Sem.run_bind, hq, hs]
theorem isAgg_ed (w : World) : (isAgg 47).run Try.prog w = .ok true w := by
  unfold isAgg
  rw [Sem.run_bind, run_underlying Try.underlying47 w]
  rfl
/-- slices.SortFunc of edges by compare. -/
def SortEdPost (w : World) (base : Nat) (v : Value) (n : Nat) (l : List Ed) (e : Ending) (w' : World) : Prop :=
  e = .returned (.tuple #[]) ∧ ∃ l', l'.Perm l ∧ SortEd l' ∧ w'.ownsRow base 47 4 v n (eds l') ∧ w.grownBy w' v.ownBlock
set_option maxRecDepth 100000 in
theorem sortEds {base n cap : Nat} {A : Option Addr} {l : List Ed} (w : World) (h : w.ownsRow base 47 4 (.slice A n cap) n (eds l)) (hl : l.length = n) (hn : n < 4611686018427387904) :
    Calls Try.prog 52 #[.slice A n cap, .func (.func 42) #[] #[]] w (SortEdPost w base (.slice A n cap) n l) := by
  rcases h.2 with ⟨h1, h2⟩ | ⟨g, cap', cur, hv, hbase, hb, hnc, hcm, hcs, htk⟩
  · injection h1 with e1 _ e3
    subst e1 e3 h2
    refine (AnyF.slices_SortFunc_none Try.sortEd none 0 _ w).mono ?_
    rintro e w' ⟨rfl, rfl⟩
    have hl : l = [] := List.eq_nil_of_length_eq_zero hl
    subst hl
    exact ⟨rfl, [], List.Perm.refl _, List.Pairwise.nil, h, World.grownBy.refl _ _⟩
  · injection hv with e1 _ e3
    subst e1 e3
    have hgw : g < w.heap.size := (Array.getElem?_eq_some_iff.1 hb).1
    letI : Inhabited Ed := ⟨⟨0, .empty, .empty, 0⟩⟩
    obtain ⟨d, hd⟩ : ∃ d : Array Ed, d.toList = l := ⟨l.toArray, by simp⟩
    have hds : d.size = n := by
      have := congrArg List.length hd
      simpa [hl] using this
    have hfl := flat_eds d
    rw [hd] at hfl
    have hH : HoldsK edC 4 w g 0 d := by
      intro j hj
      have hj1 : (eds l)[j]? = some ((flatK edC 4 d)[j]!) := by
        rw [← hfl, Array.getElem?_toList, Array.getElem?_eq_getElem hj, getElem!_pos _ j hj]
      have h1 := h.cells (g := g) rfl j _ hj1
      rw [Addr.add_lit] at h1
      exact ⟨h1, by simp [World.frozen?, hb]⟩
    have hcmp : CmpLays Try.prog 42 #[] edC 4 (fun x y : Ed => ekCmp (edK x) (edK y)) g 0 d.size w := by
      intro m os dk hs x y
      refine Calls.mono (deCompare x y _) ?_
      rintro e w' ⟨he, hG1, hG2⟩
      exact ⟨he, Gr.grow ⟨hG1, hG2⟩⟩
    have hrun := AnyQ.slices_SortFunc Try.sortEd 4 isAgg_ed sizeOf_ed edC edC_length (fun x => by
      have := edC_one x
      exact fun v hv => this v hv) (fun x y : Ed => ekCmp (edK x) (edK y)) swo_ed 42 #[] g 0 cap d w (fun _ _ => rfl) hcmp hH hgw (by omega)
    rw [hds] at hrun
    refine Calls.mono hrun ?_
    rintro e w' ⟨rfl, d', q, os, hp, hst, rfl⟩
    have hgr := grown_sort edC 4 w g q d' os
    have hs' : d'.size = n := hp.1.trans hds
    have hperm : (d'.toList).Perm d.toList := by
      have := hp.2.2
      rw [show d'.extract 0 n = d' by rw [← hs']; simp, show d.extract 0 n = d by rw [← hds]; simp] at this
      exact this
    have hfl' := flat_eds d'
    refine ⟨rfl, d'.toList, by rw [← hd]; exact hperm, ?_, ?_, hgr⟩
    · rw [SortEd, List.pairwise_iff_getElem]
      intro i j hi hj hij
      simp only [Array.length_toList] at hi hj
      have h1 := hst i j (Nat.zero_le _) hij (by omega)
      rw [getElem!_pos d' i hi, getElem!_pos d' j hj] at h1
      simp only [ltOf, decide_eq_false_iff_not] at h1
      simp only [Array.getElem_toList]
      have h2 := ekCmp_cmp.neg (edK d'[i]) (edK d'[j])
      omega
    · refine ⟨by rw [eds_length]; simp [hs'], .inr ⟨g, cap, _, rfl, hbase, heap_sortK d' hb, hnc, hcm, by simp [putCells, hcs], ?_⟩⟩
      rw [← hfl', show n * 4 = (flatK edC 4 d').size by rw [size_flatK, hs']]
      exact take_putCellsK cur _ (by rw [size_flatK, hs', hcs]; exact Nat.mul_le_mul_right 4 hnc)
end Go.Proofs.Ythaiplhjekkooaa
