/- Texts of the proof of GatherOnceSaid, joined: SoE SoF GaL. -/
import Derived.Shelf.SlSortCmp.NoneTotal
import Derived.Test.YtoojpagpkbcfjaaJGatherOnce12
import Derived.Test.YtoojpagpkbcfjaaJGatherOnce8
import Derived.Test.YtoojpagpkbcfjaaJGatherOnce13
/- slices.SortFunc of spans: its contract. -/
namespace Go.Proofs.Ytoojpagpkbcfjaa
open Go.RowKit Go.Shelf Go.Sort

theorem flat_els {w : World} {g : Nat} [Inhabited (SortEl w g)] (d : Array (SortEl w g)) : (flatK (fun e => elC e.val) 11 d).toList = els (d.toList.map Subtype.val) := by
  apply List.ext_getElem?
  intro j
  by_cases hj : j < d.size * 11
  · have hj1 : j < (flatK (fun e : SortEl w g => elC e.val) 11 d).size := by rw [size_flatK]; exact hj
    have hq : j / 11 < d.size := by omega
    have hm : j % 11 < 11 := Nat.mod_lt _ (by omega)
    have h1 := els_get (l := d.toList.map Subtype.val) (i := j / 11) (e := d[j / 11].val) (by simp [hq]) (j % 11) hm
    rw [show j / 11 * 11 + j % 11 = j from by omega] at h1
    rw [h1, Array.getElem?_toList, Array.getElem?_eq_getElem hj1]
    have h2 := get_flatK (fun e : SortEl w g => elC e.val) 11 d j hj
    rw [getElem!_pos _ j hj1, getElem!_pos d (j / 11) hq] at h2
    rw [h2, List.getElem!_eq_getElem?_getD, List.getElem?_eq_getElem (by rw [elC_length]; exact hm)]
    rfl
  · rw [List.getElem?_eq_none (by rw [Array.length_toList, size_flatK]; omega), List.getElem?_eq_none (by rw [els_length]; simp; omega)]
theorem sizeOf_span (w : World) : (Go.sizeOf 36).run Try.prog w = .ok 11 w := by
  have h : (Try.prog.info? 36).map (·.size) = some 11 := by kernel_rfl
  cases hq : Try.prog.info? 36 with
  | none => simp [hq] at h
  | some i =>
    have hs : i.size = 11 := by simpa [hq] using h
    simp [sizeOf, typeInfo, Sem.run_bind, hq, hs]
theorem isAgg_span (w : World) : (isAgg 36).run Try.prog w = .ok true w := by
  unfold isAgg
  rw [Sem.run_bind, run_underlying Try.underlying36 w]
  rfl
/-- slices.SortFunc of spans by Compare. -/
def SortPost (w : World) (base : Nat) (v : Value) (n : Nat) (l : List El) (e : Ending) (w' : World) : Prop :=
  e = .returned (.tuple #[]) ∧ ∃ l', sps l' = ordS (sps l) ∧ RowS w' base v n l' ∧ w.grownBy w' v.ownBlock ∧ ∀ e ∈ l', e ∈ l
set_option maxRecDepth 100000 in
theorem sortSpans {base n cap : Nat} {A : Option Addr} {l : List El} (w : World) (h : RowS w base (.slice A n cap) n l) (hn : n < 4611686018427387904) :
    Calls Try.prog 56 #[.slice A n cap, .func (.func 57) #[] #[]] w (SortPost w base (.slice A n cap) n l) := by
  rcases h.own.2 with ⟨h1, h2⟩ | ⟨g, cap', cur, hv, hbase, hb, hnc, hcm, hcs, htk⟩
  · injection h1 with e1 _ e3
    subst e1 e3 h2
    refine (AnyF.slices_SortFunc_none Try.sortSp none 0 _ w).mono ?_
    rintro e w' ⟨rfl, rfl⟩
    have hl : l = [] := List.eq_nil_of_length_eq_zero h.len
    subst hl
    exact ⟨rfl, [], rfl, h, World.grownBy.refl _ _, fun _ h => h⟩
  · injection hv with e1 _ e3
    subst e1 e3
    have hgw : g < w.heap.size := (Array.getElem?_eq_some_iff.1 hb).1
    have hF : ∀ e ∈ l, Far w g e := fun e he => ⟨h.ok e he, fun ht a ha hg => h.far e he ht a ha (by rw [← hg]; rfl)⟩
    letI : Inhabited (SortEl w g) := ⟨sortZero w g⟩
    obtain ⟨d, hd⟩ : ∃ d : Array (SortEl w g), d.toList.map Subtype.val = l := ⟨(l.attach.map fun e => (⟨e.1, hF e.1 e.2⟩ : SortEl w g)).toArray, by simp⟩
    have hds : d.size = n := by
      have := congrArg List.length hd
      simpa [h.len] using this
    have hfl := flat_els d
    rw [hd] at hfl
    have hH : HoldsK (fun e : SortEl w g => elC e.val) 11 w g 0 d := by
      intro j hj
      have hj1 : (els l)[j]? = some ((flatK (fun e : SortEl w g => elC e.val) 11 d)[j]!) := by
        rw [← hfl, Array.getElem?_toList, Array.getElem?_eq_getElem hj, getElem!_pos _ j hj]
      have h1 := h.own.cells (g := g) rfl j _ hj1
      rw [Addr.add_lit] at h1
      exact ⟨h1, by simp [World.frozen?, hb]⟩
    have hcmp : CmpLays Try.prog 57 #[] (fun e : SortEl w g => elC e.val) 11 (fun x y : SortEl w g => spCmp x.val.s y.val.s) g 0 d.size w := by
      intro m os dk hs x y
      have hgr := size_sortWorldK_c (fun e : SortEl w g => elC e.val) 11 w g 0 m dk os
      have hrb : ∀ z : SortEl w g, RbT (sortWorldK (fun e : SortEl w g => elC e.val) 11 w g 0 m dk os) w.heap.size z.val.A z.val.s.tags := fun z hne => by
        obtain ⟨b, o, hA, hlt, hc⟩ := z.property.ok.rd hne
        have ht : z.val.s.tags ≠ [] := fun e => hne (by rw [e]; rfl)
        refine ⟨b, o, hA, hlt, fun j u hu => ?_⟩
        exact (cell?_sortWorldK_other _ 11 w g 0 m dk os ⟨b, o + j, none⟩ (show b ≠ g from z.property.far ht ⟨b, o, none⟩ hA) hlt).trans (hc j u hu)
      refine Calls.mono (spCompareG x.val.s y.val.s _ (hrb x) (hrb y) x.property.ok.len y.property.ok.len hgr x.property.ok.max y.property.ok.max) ?_
      rintro e w' ⟨he, hG⟩
      exact ⟨he, hG.grow⟩
    have hrun := AnyQ.slices_SortFunc Try.sortSp 11 isAgg_span sizeOf_span (fun e : SortEl w g => elC e.val) (fun x => elC_length x.val) (fun x => by
      have := spC_one x.val.s x.val.A x.val.n x.val.c
      rw [Array.all_eq_true'] at this
      exact fun v hv => this v (by simpa [elC] using hv)) (fun x y : SortEl w g => spCmp x.val.s y.val.s) (swo_sp fun x : SortEl w g => x.val.s) 57 #[] g 0 cap d w (fun _ _ => rfl) hcmp hH hgw (by omega)
    rw [hds] at hrun
    refine Calls.mono hrun ?_
    rintro e w' ⟨rfl, d', q, os, hp, hst, rfl⟩
    have hgr := grown_sort (fun e : SortEl w g => elC e.val) 11 w g q d' os
    have hs' : d'.size = n := hp.1.trans hds
    have hperm : (d'.toList).Perm d.toList := by
      have := hp.2.2
      rw [show d'.extract 0 n = d' by rw [← hs']; simp, show d.extract 0 n = d by rw [← hds]; simp] at this
      exact this
    have hmem : ∀ e ∈ d'.toList.map Subtype.val, Far w g e ∧ e ∈ l := fun e he => by
      obtain ⟨x, hx, rfl⟩ := List.mem_map.1 he
      exact ⟨x.property, by rw [← hd]; exact List.mem_map.2 ⟨x, hperm.mem_iff.1 hx, rfl⟩⟩
    have hfl' := flat_els d'
    refine ⟨rfl, d'.toList.map Subtype.val, ?_, ⟨?_, by simp [hs'], ?_, ?_⟩, hgr, fun e he => (hmem e he).2⟩
    · refine ordS_eq ?_ ?_
      · rw [← hd]
        exact (hperm.map _).map _
      · rw [SortedS, List.pairwise_iff_getElem]
        intro i j hi hj hij
        simp only [sps, List.length_map, Array.length_toList] at hi hj
        have h1 := hst i j (Nat.zero_le _) hij (by omega)
        rw [getElem!_pos d' i hi, getElem!_pos d' j hj] at h1
        simp only [ltOf, decide_eq_false_iff_not] at h1
        simp only [sps, List.getElem_map, Array.getElem_toList]
        have h2 := spCmp_cmp.neg d'[i].val.s d'[j].val.s
        omega
    · refine ⟨by rw [els_length]; simp [hs'], .inr ⟨g, cap, _, rfl, hbase, heap_sortK d' hb, hnc, hcm, by simp [putCells, hcs], ?_⟩⟩
      rw [← hfl', show n * 11 = (flatK (fun e : SortEl w g => elC e.val) 11 d').size by rw [size_flatK, hs']]
      exact take_putCellsK cur _ (by rw [size_flatK, hs', hcs]; exact Nat.mul_le_mul_right 11 hnc)
    · intro e he
      obtain ⟨hf, _⟩ := hmem e he
      refine ⟨?_, hf.ok.len, hf.ok.max⟩
      by_cases ht : e.s.tags = []
      · rw [ht]
        exact Rd.nil
      · exact hf.ok.rd.grownS hgr fun a ha e => hf.far ht a ha (Option.some.inj e).symm
    · intro e he ht a ha
      exact h.far e (hmem e he).2 ht a ha
end Go.Proofs.Ytoojpagpkbcfjaa


/- Rows of spans of the call's own: append; span.Order. -/
namespace Go.Proofs.Ytoojpagpkbcfjaa
open Go.RowKit
attribute [local go_sem ↓] loadK_shut

/-- The same, the tags made by the call too. -/
def OutPostZ (w : World) (n : Nat) (ss : List Sp) (e : Ending) (w' : World) : Prop :=
  ∃ A' c' l', e = .returned (.slice A' n c') ∧ sps l' = ss ∧ RowS w' w.heap.size (.slice A' n c') n l' ∧ Below w.heap.size w w' ∧ ∀ e ∈ l', ∀ a, e.A = some a → w.heap.size ≤ a.block
set_option maxRecDepth 100000 in
set_option maxHeartbeats 2000000 in
theorem spOrderZ {A : Option Addr} {c n B : Nat} {l : List El} (w : World) (hf : RbS w B A l) (hn : l.length = n) (hB : B ≤ w.heap.size) (hnl : n ≤ 1000000) (hsm : ∀ e ∈ l, e.n ≤ 1000000) :
    Calls Try.prog 40 #[.slice A n c] w (OutPostZ w n (ordS (sps l))) := by
  have HN := Lib.hid hn
  have HSM := Lib.hid hsm
  clear hn hsm
  go_enter Try.func40, Try.ntmps40
  go_wp2
  go_loopw [3, 8] (fun v iv_ wr => ∃ (j : Nat) (A' : Option Addr) (c' : Nat) (l' : List El), j ≤ n ∧ v = .slice A' j c' ∧ iv_ = .int .i64 j ∧ sps l' = sps (l.take j) ∧ RowS wr w.heap.size (.slice A' j c') j l' ∧ Below w.heap.size w wr ∧ Hid (∀ e ∈ l', ∀ a, e.A = some a → w.heap.size ≤ a.block)) (fun _ i _ => n - (intOf i).toNat)
  case atStart => exact ⟨0, none, 0, [], by omega, rfl, rfl, rfl, RowS.nil _ _, Below.refl _ _, Lib.hid fun e he => by cases he⟩
  case round =>
    obtain ⟨j, A', c', l', hj, rfl, rfl, hl', hrow, hb, HLO⟩ := hrel
    have HL := Lib.hid hl'
    clear hl'
    by_cases hlt : j < n
    · have hlt' : (j : Int) < (n : Int) := by omega
      obtain ⟨x, hx⟩ : ∃ x, l[j]? = some x := ⟨_, List.getElem?_eq_getElem (by rw [HN.out]; exact hlt)⟩
      obtain ⟨b, o, rfl, hbb, hc, hok⟩ := (hf.below (hb.mono hB)).get hx
      have hld := loadK_el hc
      have hxn := HSM.out x (List.mem_of_getElem? hx)
      have HX := Lib.hid hx
      have hln := hok.len
      have hbw := hb.size
      have hb1 : Below wr.heap.size wr (wr.alloc (.cells (spC x.s x.A x.n x.c) 36)) := (Below.refl _ wr).alloc (Nat.le_refl _) _
      have bk1 := Bk.new wr 36 (spC x.s x.A x.n x.c)
      have hld1 := loadK_sp bk1
      have hrow1 := hrow.bS hb1
      have hok1 := (hok.below (hb1.mono (Nat.le_trans hB hbw)))
      have hcp := spCopy (c := x.c) x.s _ hok1.rd hok1.len (Nat.le_trans (Nat.le_trans hB hbw) hb1.size) (by omega)
      have HCP := Lib.hid hcp
      have hbW := hb.trans (hb1.mono hbw)
      clear hc hcp hok hok1 hb1 bk1
      go_wp2_with (go_at_call 33; refine HCP.out.mono ?_)
      rintro e w2 ⟨A2, c2, rfl, hr2, hb2, hc2, hlo2, hnil2⟩
      have hrow2 := hrow1.bS hb2
      obtain ⟨el, hel⟩ : ∃ el : El, el = ⟨x.s, A2, x.n, c2⟩ := ⟨_, rfl⟩
      have hb3 : Below w2.heap.size w2 (w2.alloc (.cells (spC x.s A2 x.n c2) 36)) := (Below.refl _ w2).alloc (Nat.le_refl _) _
      have hrow3 := hrow2.bS hb3
      have hek : ElOk (w2.alloc (.cells (spC x.s A2 x.n c2) 36)) (w2.alloc (.cells (spC x.s A2 x.n c2) 36)).heap.size ⟨x.s, A2, x.n, c2⟩ := ⟨Rd.belowS hr2 hb3, hln, by show x.n ≤ _; omega⟩
      have hrd := rd_span (w := w2) rfl ⟨x.s, A2, x.n, c2⟩
      have hbw2 : w.heap.size ≤ w2.heap.size := Nat.le_trans hbW.size hb2.size
      have hbase : w.heap.size ≤ (w2.alloc (.cells (spC x.s A2 x.n c2) 36)).heap.size := Nat.le_trans hbw2 hb3.size
      have hbX := (hbW.trans (hb2.mono hbW.size)).trans (hb3.mono hbw2)
      have hlo3 : ∀ a, A2 = some a → w.heap.size ≤ a.block := fun a ha => Nat.le_trans hbW.size (hlo2 a ha)
      have hown : ∀ k, (Value.slice A' j c').ownBlock = some k → k < wr.heap.size ∧ w.heap.size ≤ k := hrow.own_lt
      clear hrow1 hrow2 hld1
      go_wp2_with (at_builtin; go_loud (refine wpList_appS _ rfl (.tmp 12) (.tmp 15) rfl w.heap.size _ j l' rfl hrow3.own _ _ 1 1 [⟨x.s, A2, x.n, c2⟩] rfl rfl hrd (by omega) hbase ?_))
      intro A3 c3 w3 hap _
      have hrow4 := hrow3.app (es := [⟨x.s, A2, x.n, c2⟩]) hap (by simpa using hek) (fun e he _ a ha => by
        obtain rfl : e = _ := by simpa using he
        intro e1
        have h1 := (hown _ e1).1
        have h2 := hlo2 a ha
        have h3 : wr.heap.size < (wr.alloc (.cells (spC x.s x.A x.n x.c) 36)).heap.size := by simp
        omega)
      go_wp2
      go_roundw
      case rel =>
        refine ⟨j + 1, A3, c3, l' ++ [⟨x.s, A2, x.n, c2⟩], by omega, rfl, by go_num, ?_, hrow4, ?_, Lib.hid fun e he a ha => ?_⟩
        · rw [take_snoc HX.out, sps_append, sps_append, HL.out]
          rfl
        · exact hbX.trans (hap.below hbase (fun k hk => (hown k hk).2))
        · rcases List.mem_append.1 he with h1 | h1
          · exact HLO.out e h1 a ha
          · rw [List.mem_singleton.1 h1] at ha
            exact hlo3 a ha
      case measure => simp [intOf]; omega
    · have hlt' : decide ((j : Int) < (n : Int)) = false := by simp; omega
      obtain rfl : j = n := by omega
      have hs := sortSpans wr hrow (by omega)
      have HS := Lib.hid hs
      clear hs
      go_wp2_with (go_at_call 56; refine HS.out.mono ?_; rintro e w' ⟨rfl, l2, hl2, hrow2, hgr, hmem⟩)
      go_ret
      refine ⟨A', c', l2, rfl, ?_, hrow2, ?_, fun e he => HLO.out e (hmem e he)⟩
      · rw [hl2, HL.out, List.take_of_length_le (by rw [HN.out]; omega)]
      · refine hb.trans ?_
        exact ⟨hgr.os, hgr.tape, hgr.output, hgr.size, fun i hi => hgr.block i (Nat.lt_of_lt_of_le hi hb.size) (fun e => by have := (hrow.own_lt _ e.symm).2; omega)⟩
theorem spOrder {A : Option Addr} {c n B : Nat} {l : List El} (w : World) (hf : RbS w B A l) (hn : l.length = n) (hB : B ≤ w.heap.size) (hnl : n ≤ 1000000) (hsm : ∀ e ∈ l, e.n ≤ 1000000) :
    Calls Try.prog 40 #[.slice A n c] w (OutPost w n (ordS (sps l))) :=
  (spOrderZ w hf hn hB hnl hsm).mono fun _ _ ⟨A', c', l', h1, h2, h3, h4, _⟩ => ⟨A', c', l', h1, h2, h3, h4⟩
end Go.Proofs.Ytoojpagpkbcfjaa


/- Layer 20: the gatherer as it lies. -/
namespace Go.Proofs.Ytoojpagpkbcfjaa
open Go.RowKit

/-- A closed trace as it lies. -/
structure ClE where
  t : Tr
  l : List El
  A : Option Addr
  c : Nat
def clC (e : ClE) : List Value := [.int .u64 (e.t.hi : Nat), .int .u64 (e.t.lo : Nat), .slice e.A e.l.length e.c]
theorem clC_length (e : ClE) : (clC e).length = 3 := rfl
theorem clC_one (e : ClE) : ∀ u ∈ clC e, u.oneCell' = true := by
  intro u hu
  simp [clC] at hu
  rcases hu with rfl | rfl | rfl <;> rfl
abbrev clV (e : ClE) : Value := .agg #[.int .u64 (e.t.hi : Nat), .int .u64 (e.t.lo : Nat), .slice e.A e.l.length e.c]
/-- What the closed traces are. -/
def clsOf (l : List ClE) : List (Tr × List Sp) := l.map fun e => (e.t, sps e.l)
/-- Where all lies. -/
structure GMem where
  ob : Nat
  eb : Nat
  tv : Value
  cv : Value
  xb : Tr → Nat
  xv : Tr → Value
  xe : Tr → List El
  Y : List Tr
  E : List Tr
  dl : List Due
  ce : List ClE
  ex : Option Tr
/-- Its cells. -/
def gaC (G : GSt) (m : GMem) : Array Value := #[.int .i64 G.win, .int .i64 G.cap, .int .i64 G.now, .map (some m.ob), m.tv, .map (some m.eb), m.cv, .int .i64 (G.late : Nat)]
/-- A part of a row, its front cut off. -/
def Qf {α : Type} (f : α → List Value) (k : Nat) (t : TypeId) (w : World) (base : Nat) (v : Value) (xs : List α) : Prop :=
  (v = .slice none 0 0 ∧ xs = []) ∨ ∃ g off cap cur, v = .slice (some ⟨g, off, none⟩) xs.length cap ∧ base ≤ g ∧ Bk w g t cur ∧ xs.length ≤ cap ∧ off + cap * k ≤ cur.size ∧ ∀ j u, (flatR f xs)[j]? = some u → cur[off + j]? = some u
/-- A span's tags lie in Z. -/
structure ElZ (w : World) (Z : Nat → Prop) (e : El) : Prop where
  ok : ElOk w w.heap.size e
  z : e.s.tags ≠ [] → ∀ a, e.A = some a → Z a.block
/-- A closed trace's spans lie in Z. -/
structure ClZ (w : World) (Z : Nat → Prop) (e : ClE) : Prop where
  rd : RbS w w.heap.size e.A e.l
  z : e.l ≠ [] → ∀ a, e.A = some a → Z a.block
  el : ∀ x ∈ e.l, ElZ w Z x
  cap : e.l.length ≤ e.c
/-- The gatherer at block F: what changes in the blocks K, what does not in Z. -/
structure Gf (base : Nat) (w : World) (K Z : Nat → Prop) (F : Nat) (G : GSt) (m : GMem) : Prop where
  blk : Bk w F 67 (gaC G m)
  opn : Mh trV ptV w m.ob (m.Y.map fun t => (t, m.xb t))
  opnP : m.Y.Perm (G.op.map (·.t))
  xfl : ∀ x ∈ G.op, Bk w (m.xb x.t) 82 #[m.xv x.t, .int .i64 x.time]
  xro : ∀ x ∈ G.op, w.ownsRow base 36 11 (m.xv x.t) x.l.length (els (m.xe x.t))
  xsp : ∀ x ∈ G.op, sps (m.xe x.t) = x.l
  xel : ∀ x ∈ G.op, ∀ e ∈ m.xe x.t, ElZ w Z e
  xinj : ∀ x ∈ G.op, ∀ y ∈ G.op, m.xb x.t = m.xb y.t → x.t = y.t
  rinj : ∀ x ∈ G.op, ∀ y ∈ G.op, ∀ g, (m.xv x.t).ownBlock = some g → (m.xv y.t).ownBlock = some g → x.t = y.t
  evr : Mh trV (fun b : Bool => .bool b) w m.eb (m.E.map fun t => (t, true))
  evrM : ∀ t, t ∈ m.E ↔ t ∈ G.all
  tur : DuR w base m.tv m.dl
  hp : Heap dLt m.dl m.dl.length
  hin : ∀ x ∈ G.op, m.ex ≠ some x.t → x.due ∈ m.dl
  cls : Qf clC 3 43 w base m.cv m.ce
  clsE : clsOf m.ce = G.cl
  clz : ∀ e ∈ m.ce, ClZ w Z e
  neE : m.ob ≠ m.eb
  kF : K F
  kO : K m.ob
  kE : K m.eb
  kT : ∀ g, m.tv.ownBlock = some g → K g
  kC : ∀ g, m.cv.ownBlock = some g → K g
  kX : ∀ x ∈ G.op, K (m.xb x.t)
  kR : ∀ x ∈ G.op, ∀ g, (m.xv x.t).ownBlock = some g → K g
  kz : ∀ b, K b → ¬Z b
  lo : ∀ b, K b → base ≤ b ∧ b < w.heap.size
  loZ : ∀ b, Z b → b < w.heap.size
section
variable {base F : Nat} {w w' : World} {K K' Z Z' : Nat → Prop} {G : GSt} {m : GMem}
theorem ElZ.keep {e : El} (h : ElZ w Z e) (hb : ∀ b, Z b → w'.heap[b]? = w.heap[b]?) (hs : w.heap.size ≤ w'.heap.size) (hz : ∀ b, Z b → Z' b) : ElZ w' Z' e := by
  refine ⟨⟨?_, h.ok.len, h.ok.max⟩, fun h1 a ha => hz _ (h.z h1 a ha)⟩
  intro hn
  obtain ⟨b, o, hA, hlt, hc⟩ := h.ok.rd hn
  have hne : e.s.tags ≠ [] := fun e0 => hn (by rw [e0]; rfl)
  exact ⟨b, o, hA, Nat.lt_of_lt_of_le hlt hs, fun j u hj => (World.cell?_of_block (a := ⟨b, o + j, none⟩) (hb b (h.z hne _ hA))).trans (hc j u hj)⟩
theorem ClZ.keep {e : ClE} (h : ClZ w Z e) (hb : ∀ b, Z b → w'.heap[b]? = w.heap[b]?) (hs : w.heap.size ≤ w'.heap.size) (hz : ∀ b, Z b → Z' b) : ClZ w' Z' e := by
  refine ⟨⟨?_, fun x hx => ((h.el x hx).keep hb hs hz).ok⟩, fun h1 a ha => hz _ (h.z h1 a ha), fun x hx => (h.el x hx).keep hb hs hz, h.cap⟩
  intro hn
  obtain ⟨b, o, hA, hlt, hc⟩ := h.rd.rd hn
  have hne : e.l ≠ [] := fun e0 => hn (by rw [e0]; rfl)
  exact ⟨b, o, hA, Nat.lt_of_lt_of_le hlt hs, fun j u hj => (World.cell?_of_block (a := ⟨b, o + j, none⟩) (hb b (h.z hne _ hA))).trans (hc j u hj)⟩
theorem Qf.keep {α : Type} {f : α → List Value} {k : Nat} {t : TypeId} {v : Value} {xs : List α} (h : Qf f k t w base v xs) (hb : ∀ g, v.ownBlock = some g → w'.heap[g]? = w.heap[g]?) : Qf f k t w' base v xs := by
  rcases h with h | ⟨g, off, cap, cur, rfl, h1, h2, h3⟩
  · exact .inl h
  · exact .inr ⟨g, off, cap, cur, rfl, h1, (hb g rfl).trans h2, h3⟩
/-- What leaves its blocks alone keeps it. -/
theorem Gf.keep (h : Gf base w K Z F G m) (hf : FrK w w' K') (hd : ∀ b, K b → ¬K' b) (hdz : ∀ b, Z b → ¬K' b) : Gf base w' K Z F G m :=
  have hb : ∀ b, K b → w'.heap[b]? = w.heap[b]? := fun b hb => hf.block b (h.lo b hb).2 (hd b hb)
  have hz : ∀ b, Z b → w'.heap[b]? = w.heap[b]? := fun b hb => hf.block b (h.loZ b hb) (hdz b hb)
  { h with
    blk := (hb _ h.kF).trans h.blk
    opn := h.opn.of (hb _ h.kO)
    xfl := fun x hx => (hb _ (h.kX x hx)).trans (h.xfl x hx)
    xro := fun x hx => own_of (h.xro x hx) fun g e => hb g (h.kR x hx g e)
    xel := fun x hx e he => (h.xel x hx e he).keep hz hf.size fun _ e => e
    evr := h.evr.of (hb _ h.kE)
    tur := own_of h.tur fun g e => hb g (h.kT g e)
    cls := h.cls.keep fun g e => hb g (h.kC g e)
    clz := fun e he => (h.clz e he).keep hz hf.size fun _ e => e
    lo := fun b e => ⟨(h.lo b e).1, Nat.lt_of_lt_of_le (h.lo b e).2 hf.size⟩
    loZ := fun b e => Nat.lt_of_lt_of_le (h.loZ b e) hf.size }
theorem Gf.below (h : Gf base w K Z F G m) (hb : Below w.heap.size w w') : Gf base w' K Z F G m := h.keep (FrK.of_below hb (Nat.le_refl _) Kno) (fun _ _ hf => hf) fun _ _ hf => hf
theorem Gf.hin0 (h : Gf base w K Z F G m) (hex : m.ex = none) : ∀ x ∈ G.op, x.due ∈ m.dl := fun x hx => h.hin x hx (by rw [hex]; intro e; cases e)
theorem Gf.baseLe (h : Gf base w K Z F G m) : base ≤ w.heap.size := by
  have := h.lo F h.kF
  omega
/-- Cells of F, stored: numbers alone. -/
theorem Gf.stored (h : Gf base w K Z F G m) {G' : GSt} (i : Nat) (u : Value) (hc : gaC G' m = (gaC G m).setIfInBounds i u) (h1 : G'.op = G.op) (h2 : G'.all = G.all) (h3 : G'.cl = G.cl) : Gf base (w.setCell ⟨F, i, none⟩ u) K Z F G' m := by
  have hf := FrK.set w F i u
  have hb : ∀ b, b ≠ F → b < w.heap.size → (w.setCell ⟨F, i, none⟩ u).heap[b]? = w.heap[b]? := fun b hb hl => hf.block b hl hb
  have hbk : ∀ {b : Nat} {t : TypeId} {cs : Array Value}, Bk w b t cs → t ≠ 67 → (w.setCell ⟨F, i, none⟩ u).heap[b]? = w.heap[b]? := fun {b t cs} hB ht => hb b (ne_of_type hB h.blk ht) hB.lt
  have hmp : ∀ {κ ν : Type} {kv : κ → Value} {vv : ν → Value} {b : Nat} {L : List (κ × ν)}, Mh kv vv w b L → Mh kv vv (w.setCell ⟨F, i, none⟩ u) b L := fun {κ ν kv vv b L} hM => by
    obtain ⟨es, c, he⟩ := hM.obj
    refine hM.of (hb b (fun e => ?_) hM.lt)
    rw [e, show w.heap[F]? = _ from h.blk] at he
    cases he
  have hz : ∀ b, Z b → (w.setCell ⟨F, i, none⟩ u).heap[b]? = w.heap[b]? := fun b hb2 => hb b (fun e => h.kz F h.kF (e ▸ hb2)) (h.loZ b hb2)
  exact { blk := by rw [hc]; exact h.blk.set i u
          opn := hmp h.opn
          opnP := by rw [h1]; exact h.opnP
          xfl := by
            rw [h1]
            exact fun x hx => (hbk (h.xfl x hx) (by decide)).trans (h.xfl x hx)
          xro := by
            rw [h1]
            exact fun x hx => own_of (h.xro x hx) fun g e => by
              obtain ⟨cur, hcur⟩ := own_bk (h.xro x hx) e
              exact hbk hcur (by decide)
          xsp := by rw [h1]; exact h.xsp
          xel := by
            rw [h1]
            exact fun x hx e he => (h.xel x hx e he).keep hz hf.size fun _ e => e
          xinj := by rw [h1]; exact h.xinj
          rinj := by rw [h1]; exact h.rinj
          evr := hmp h.evr
          evrM := by rw [h2]; exact h.evrM
          tur := own_of h.tur fun g e => by
            obtain ⟨cur, hcur⟩ := own_bk h.tur e
            exact hbk hcur (by decide)
          hp := h.hp
          hin := by rw [h1]; exact h.hin
          cls := h.cls.keep fun g e => by
            rcases h.cls with ⟨h4, -⟩ | ⟨g', off, cap, cur, h4, -, h5, -⟩
            · rw [h4] at e
              cases e
            · rw [h4] at e
              have e : g' = g := Option.some.inj e
              exact hbk (e ▸ h5) (by decide)
          clsE := by rw [h3]; exact h.clsE
          clz := fun e he => (h.clz e he).keep hz hf.size fun _ e => e
          neE := h.neE
          kF := h.kF
          kO := h.kO
          kE := h.kE
          kT := h.kT
          kC := h.kC
          kX := by rw [h1]; exact h.kX
          kR := by rw [h1]; exact h.kR
          kz := h.kz
          lo := fun b e => ⟨(h.lo b e).1, Nat.lt_of_lt_of_le (h.lo b e).2 hf.size⟩
          loZ := fun b e => Nat.lt_of_lt_of_le (h.loZ b e) hf.size }
end
end Go.Proofs.Ytoojpagpkbcfjaa

