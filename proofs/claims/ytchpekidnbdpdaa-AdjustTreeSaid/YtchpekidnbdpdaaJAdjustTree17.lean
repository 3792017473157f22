/- Texts of the proof of AdjustTreeSaid, joined: SoE SoF. -/
import Derived.Shelf.SlSortCmp.NoneTotal
import Derived.Test.YtchpekidnbdpdaaJAdjustTree15
import Derived.Test.YtchpekidnbdpdaaJAdjustTree7
import Derived.Test.YtchpekidnbdpdaaJAdjustTree10
/- slices.SortFunc of spans: its contract. -/
namespace Go.Proofs.Ytchpekidnbdpdaa
open Go.RowKit Go.Shelf Go.Sort

theorem flat_els {w : World} {g : Nat} [Inhabited (SortEl w g)] (d : Array (SortEl w g)) : (flatK (fun e => elC e.val) 11 d).toList = els (d.toList.map Subtype.val) := by
  apply List.ext_getElem?
  intro j
  by_cases hj : j < d.size * 11
  · have hj1 : j < (flatK (fun e : SortEl w g => elC e.val) 11 d).size := by rw [size_flatK]; exact hj
    have hq : j / 11 < d.size := by omega
    have hm : j % 11 < 11 := Nat.mod_lt _ (by omega)
    have h1 := els_get (l := d.toList.map Subtype.val) (i := j / 11) (e := d[j / 11].val) (by simp [hq]) (j % 11) hm
    rw [show j / 11 * 11 + j % 11 = j from by omega] at h1
    rw [h1, Array.getElem?_toList, Array.getElem?_eq_getElem hj1]
    have h2 := get_flatK (fun e : SortEl w g => elC e.val) 11 d j hj
    rw [getElem!_pos _ j hj1, getElem!_pos d (j / 11) hq] at h2
    rw [h2, List.getElem!_eq_getElem?_getD, List.getElem?_eq_getElem (by rw [elC_length]; exact hm)]
    rfl
  · rw [List.getElem?_eq_none (by rw [Array.length_toList, size_flatK]; omega), List.getElem?_eq_none (by rw [els_length]; simp; omega)]
theorem sizeOf_span (w : World) : (Go.sizeOf 32).run Try.prog w = .ok 11 w := by
  have h : (Try.prog.info? 32).map (·.size) = some 11 := by kernel_rfl
  cases hq : Try.prog.info? 32 with
  | none => simp [hq] at h
  | some i =>
    have hs : i.size = 11 := by simpa [hq] using h
    simp [sizeOf, typeInfo, Sem.run_bind, hq, hs]
theorem isAgg_span (w : World) : (isAgg 32).run Try.prog w = .ok true w := by
  unfold isAgg
  rw [Sem.run_bind, run_underlying Try.underlying32 w]
  rfl
/-- slices.SortFunc of spans by Compare. -/
def SortPost (w : World) (base : Nat) (v : Value) (n : Nat) (l : List El) (e : Ending) (w' : World) : Prop :=
  e = .returned (.tuple #[]) ∧ ∃ l', sps l' = ordS (sps l) ∧ RowS w' base v n l' ∧ w.grownBy w' v.ownBlock ∧ ∀ e ∈ l', e ∈ l
set_option maxRecDepth 100000 in
theorem sortSpans {base n cap : Nat} {A : Option Addr} {l : List El} (w : World) (h : RowS w base (.slice A n cap) n l) (hn : n < 4611686018427387904) :
    Calls Try.prog 55 #[.slice A n cap, .func (.func 38) #[] #[]] w (SortPost w base (.slice A n cap) n l) := by
  rcases h.own.2 with ⟨h1, h2⟩ | ⟨g, cap', cur, hv, hbase, hb, hnc, hcm, hcs, htk⟩
  · injection h1 with e1 _ e3
    subst e1 e3 h2
    refine (AnyF.slices_SortFunc_none Try.sortSp none 0 _ w).mono ?_
    rintro e w' ⟨rfl, rfl⟩
    have hl : l = [] := List.eq_nil_of_length_eq_zero h.len
    subst hl
    exact ⟨rfl, [], rfl, h, World.grownBy.refl _ _, fun _ h => h⟩
  · injection hv with e1 _ e3
    subst e1 e3
    have hgw : g < w.heap.size := (Array.getElem?_eq_some_iff.1 hb).1
    have hF : ∀ e ∈ l, Far w g e := fun e he => ⟨h.ok e he, fun ht a ha hg => h.far e he ht a ha (by rw [← hg]; rfl)⟩
    letI : Inhabited (SortEl w g) := ⟨sortZero w g⟩
    obtain ⟨d, hd⟩ : ∃ d : Array (SortEl w g), d.toList.map Subtype.val = l := ⟨(l.attach.map fun e => (⟨e.1, hF e.1 e.2⟩ : SortEl w g)).toArray, by simp⟩
    have hds : d.size = n := by
      have := congrArg List.length hd
      simpa [h.len] using this
    have hfl := flat_els d
    rw [hd] at hfl
    have hH : HoldsK (fun e : SortEl w g => elC e.val) 11 w g 0 d := by
      intro j hj
      have hj1 : (els l)[j]? = some ((flatK (fun e : SortEl w g => elC e.val) 11 d)[j]!) := by
        rw [← hfl, Array.getElem?_toList, Array.getElem?_eq_getElem hj, getElem!_pos _ j hj]
      have h1 := h.own.cells (g := g) rfl j _ hj1
      rw [Addr.add_lit] at h1
      exact ⟨h1, by simp [World.frozen?, hb]⟩
    have hcmp : CmpLays Try.prog 38 #[] (fun e : SortEl w g => elC e.val) 11 (fun x y : SortEl w g => spCmp x.val.s y.val.s) g 0 d.size w := by
      intro m os dk hs x y
      have hgr := size_sortWorldK_c (fun e : SortEl w g => elC e.val) 11 w g 0 m dk os
      have hrb : ∀ z : SortEl w g, RbT (sortWorldK (fun e : SortEl w g => elC e.val) 11 w g 0 m dk os) w.heap.size z.val.A z.val.s.tags := fun z hne => by
        obtain ⟨b, o, hA, hlt, hc⟩ := z.property.ok.rd hne
        have ht : z.val.s.tags ≠ [] := fun e => hne (by rw [e]; rfl)
        refine ⟨b, o, hA, hlt, fun j u hu => ?_⟩
        exact (cell?_sortWorldK_other _ 11 w g 0 m dk os ⟨b, o + j, none⟩ (show b ≠ g from z.property.far ht ⟨b, o, none⟩ hA) hlt).trans (hc j u hu)
      refine Calls.mono (spCompareG x.val.s y.val.s _ (hrb x) (hrb y) x.property.ok.len y.property.ok.len hgr x.property.ok.max y.property.ok.max) ?_
      rintro e w' ⟨he, hG⟩
      exact ⟨he, hG.grow⟩
    have hrun := AnyQ.slices_SortFunc Try.sortSp 11 isAgg_span sizeOf_span (fun e : SortEl w g => elC e.val) (fun x => elC_length x.val) (fun x => by
      have := spC_one x.val.s x.val.A x.val.n x.val.c
      rw [Array.all_eq_true'] at this
      exact fun v hv => this v (by simpa [elC] using hv)) (fun x y : SortEl w g => spCmp x.val.s y.val.s) (swo_sp fun x : SortEl w g => x.val.s) 38 #[] g 0 cap d w (fun _ _ => rfl) hcmp hH hgw (by omega)
    rw [hds] at hrun
    refine Calls.mono hrun ?_
    rintro e w' ⟨rfl, d', q, os, hp, hst, rfl⟩
    have hgr := grown_sort (fun e : SortEl w g => elC e.val) 11 w g q d' os
    have hs' : d'.size = n := hp.1.trans hds
    have hperm : (d'.toList).Perm d.toList := by
      have := hp.2.2
      rw [show d'.extract 0 n = d' by rw [← hs']; simp, show d.extract 0 n = d by rw [← hds]; simp] at this
      exact this
    have hmem : ∀ e ∈ d'.toList.map Subtype.val, Far w g e ∧ e ∈ l := fun e he => by
      obtain ⟨x, hx, rfl⟩ := List.mem_map.1 he
      exact ⟨x.property, by rw [← hd]; exact List.mem_map.2 ⟨x, hperm.mem_iff.1 hx, rfl⟩⟩
    have hfl' := flat_els d'
    refine ⟨rfl, d'.toList.map Subtype.val, ?_, ⟨?_, by simp [hs'], ?_, ?_⟩, hgr, fun e he => (hmem e he).2⟩
    · refine ordS_eq ?_ ?_
      · rw [← hd]
        exact (hperm.map _).map _
      · rw [SortedS, List.pairwise_iff_getElem]
        intro i j hi hj hij
        simp only [sps, List.length_map, Array.length_toList] at hi hj
        have h1 := hst i j (Nat.zero_le _) hij (by omega)
        rw [getElem!_pos d' i hi, getElem!_pos d' j hj] at h1
        simp only [ltOf, decide_eq_false_iff_not] at h1
        simp only [sps, List.getElem_map, Array.getElem_toList]
        have h2 := spCmp_cmp.neg d'[i].val.s d'[j].val.s
        omega
    · refine ⟨by rw [els_length]; simp [hs'], .inr ⟨g, cap, _, rfl, hbase, heap_sortK d' hb, hnc, hcm, by simp [putCells, hcs], ?_⟩⟩
      rw [← hfl', show n * 11 = (flatK (fun e : SortEl w g => elC e.val) 11 d').size by rw [size_flatK, hs']]
      exact take_putCellsK cur _ (by rw [size_flatK, hs', hcs]; exact Nat.mul_le_mul_right 11 hnc)
    · intro e he
      obtain ⟨hf, _⟩ := hmem e he
      refine ⟨?_, hf.ok.len, hf.ok.max⟩
      by_cases ht : e.s.tags = []
      · rw [ht]
        exact Rd.nil
      · exact hf.ok.rd.grownS hgr fun a ha e => hf.far ht a ha (Option.some.inj e).symm
    · intro e he ht a ha
      exact h.far e (hmem e he).2 ht a ha
end Go.Proofs.Ytchpekidnbdpdaa


/- Rows of spans of the call's own: append; span.Order. -/
namespace Go.Proofs.Ytchpekidnbdpdaa
open Go.RowKit
attribute [local go_sem ↓] loadK_shut

/-- The same, the tags made by the call too. -/
def OutPostZ (w : World) (n : Nat) (ss : List Sp) (e : Ending) (w' : World) : Prop :=
  ∃ A' c' l', e = .returned (.slice A' n c') ∧ sps l' = ss ∧ RowS w' w.heap.size (.slice A' n c') n l' ∧ Below w.heap.size w w' ∧ ∀ e ∈ l', ∀ a, e.A = some a → w.heap.size ≤ a.block
set_option maxRecDepth 100000 in
set_option maxHeartbeats 2000000 in
theorem spOrderZ {A : Option Addr} {c n B : Nat} {l : List El} (w : World) (hf : RbS w B A l) (hn : l.length = n) (hB : B ≤ w.heap.size) (hnl : n ≤ 1000000) (hsm : ∀ e ∈ l, e.n ≤ 1000000) :
    Calls Try.prog 33 #[.slice A n c] w (OutPostZ w n (ordS (sps l))) := by
  have HN := Lib.hid hn
  have HSM := Lib.hid hsm
  clear hn hsm
  go_enter Try.func33, Try.ntmps33
  go_wp2
  go_loopw [3, 8] (fun v iv_ wr => ∃ (j : Nat) (A' : Option Addr) (c' : Nat) (l' : List El), j ≤ n ∧ v = .slice A' j c' ∧ iv_ = .int .i64 j ∧ sps l' = sps (l.take j) ∧ RowS wr w.heap.size (.slice A' j c') j l' ∧ Below w.heap.size w wr ∧ Hid (∀ e ∈ l', ∀ a, e.A = some a → w.heap.size ≤ a.block)) (fun _ i _ => n - (intOf i).toNat)
  case atStart => exact ⟨0, none, 0, [], by omega, rfl, rfl, rfl, RowS.nil _ _, Below.refl _ _, Lib.hid fun e he => by cases he⟩
  case round =>
    obtain ⟨j, A', c', l', hj, rfl, rfl, hl', hrow, hb, HLO⟩ := hrel
    have HL := Lib.hid hl'
    clear hl'
    by_cases hlt : j < n
    · have hlt' : (j : Int) < (n : Int) := by omega
      obtain ⟨x, hx⟩ : ∃ x, l[j]? = some x := ⟨_, List.getElem?_eq_getElem (by rw [HN.out]; exact hlt)⟩
      obtain ⟨b, o, rfl, hbb, hc, hok⟩ := (hf.below (hb.mono hB)).get hx
      have hld := loadK_el hc
      have hxn := HSM.out x (List.mem_of_getElem? hx)
      have HX := Lib.hid hx
      have hln := hok.len
      have hbw := hb.size
      have hb1 : Below wr.heap.size wr (wr.alloc (.cells (spC x.s x.A x.n x.c) 32)) := (Below.refl _ wr).alloc (Nat.le_refl _) _
      have bk1 := Bk.new wr 32 (spC x.s x.A x.n x.c)
      have hld1 := loadK_sp bk1
      have hrow1 := hrow.bS hb1
      have hok1 := (hok.below (hb1.mono (Nat.le_trans hB hbw)))
      have hcp := spCopy (c := x.c) x.s _ hok1.rd hok1.len (Nat.le_trans (Nat.le_trans hB hbw) hb1.size) (by omega)
      have HCP := Lib.hid hcp
      have hbW := hb.trans (hb1.mono hbw)
      clear hc hcp hok hok1 hb1 bk1
      go_wp2_with (go_at_call 49; refine HCP.out.mono ?_)
      rintro e w2 ⟨A2, c2, rfl, hr2, hb2, hc2, hlo2, hnil2⟩
      have hrow2 := hrow1.bS hb2
      obtain ⟨el, hel⟩ : ∃ el : El, el = ⟨x.s, A2, x.n, c2⟩ := ⟨_, rfl⟩
      have hb3 : Below w2.heap.size w2 (w2.alloc (.cells (spC x.s A2 x.n c2) 32)) := (Below.refl _ w2).alloc (Nat.le_refl _) _
      have hrow3 := hrow2.bS hb3
      have hek : ElOk (w2.alloc (.cells (spC x.s A2 x.n c2) 32)) (w2.alloc (.cells (spC x.s A2 x.n c2) 32)).heap.size ⟨x.s, A2, x.n, c2⟩ := ⟨Rd.belowS hr2 hb3, hln, by show x.n ≤ _; omega⟩
      have hrd := rd_span (w := w2) rfl ⟨x.s, A2, x.n, c2⟩
      have hbw2 : w.heap.size ≤ w2.heap.size := Nat.le_trans hbW.size hb2.size
      have hbase : w.heap.size ≤ (w2.alloc (.cells (spC x.s A2 x.n c2) 32)).heap.size := Nat.le_trans hbw2 hb3.size
      have hbX := (hbW.trans (hb2.mono hbW.size)).trans (hb3.mono hbw2)
      have hlo3 : ∀ a, A2 = some a → w.heap.size ≤ a.block := fun a ha => Nat.le_trans hbW.size (hlo2 a ha)
      have hown : ∀ k, (Value.slice A' j c').ownBlock = some k → k < wr.heap.size ∧ w.heap.size ≤ k := hrow.own_lt
      clear hrow1 hrow2 hld1
      go_wp2_with (at_builtin; go_loud (refine wpList_appS _ rfl (.tmp 12) (.tmp 15) rfl w.heap.size _ j l' rfl hrow3.own _ _ 1 1 [⟨x.s, A2, x.n, c2⟩] rfl rfl hrd (by omega) hbase ?_))
      intro A3 c3 w3 hap _
      have hrow4 := hrow3.app (es := [⟨x.s, A2, x.n, c2⟩]) hap (by simpa using hek) (fun e he _ a ha => by
        obtain rfl : e = _ := by simpa using he
        intro e1
        have h1 := (hown _ e1).1
        have h2 := hlo2 a ha
        have h3 : wr.heap.size < (wr.alloc (.cells (spC x.s x.A x.n x.c) 32)).heap.size := by simp
        omega)
      go_wp2
      go_roundw
      case rel =>
        refine ⟨j + 1, A3, c3, l' ++ [⟨x.s, A2, x.n, c2⟩], by omega, rfl, by go_num, ?_, hrow4, ?_, Lib.hid fun e he a ha => ?_⟩
        · rw [take_snoc HX.out, sps_append, sps_append, HL.out]
          rfl
        · exact hbX.trans (hap.below hbase (fun k hk => (hown k hk).2))
        · rcases List.mem_append.1 he with h1 | h1
          · exact HLO.out e h1 a ha
          · rw [List.mem_singleton.1 h1] at ha
            exact hlo3 a ha
      case measure => simp [intOf]; omega
    · have hlt' : decide ((j : Int) < (n : Int)) = false := by simp; omega
      obtain rfl : j = n := by omega
      have hs := sortSpans wr hrow (by omega)
      have HS := Lib.hid hs
      clear hs
      go_wp2_with (go_at_call 55; refine HS.out.mono ?_; rintro e w' ⟨rfl, l2, hl2, hrow2, hgr, hmem⟩)
      go_ret
      refine ⟨A', c', l2, rfl, ?_, hrow2, ?_, fun e he => HLO.out e (hmem e he)⟩
      · rw [hl2, HL.out, List.take_of_length_le (by rw [HN.out]; omega)]
      · refine hb.trans ?_
        exact ⟨hgr.os, hgr.tape, hgr.output, hgr.size, fun i hi => hgr.block i (Nat.lt_of_lt_of_le hi hb.size) (fun e => by have := (hrow.own_lt _ e.symm).2; omega)⟩
theorem spOrder {A : Option Addr} {c n B : Nat} {l : List El} (w : World) (hf : RbS w B A l) (hn : l.length = n) (hB : B ≤ w.heap.size) (hnl : n ≤ 1000000) (hsm : ∀ e ∈ l, e.n ≤ 1000000) :
    Calls Try.prog 33 #[.slice A n c] w (OutPost w n (ordS (sps l))) :=
  (spOrderZ w hf hn hB hnl hsm).mono fun _ _ ⟨A', c', l', h1, h2, h3, h4, _⟩ => ⟨A', c', l', h1, h2, h3, h4⟩
end Go.Proofs.Ytchpekidnbdpdaa

