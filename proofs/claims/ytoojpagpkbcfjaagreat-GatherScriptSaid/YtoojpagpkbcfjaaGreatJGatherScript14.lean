/- Texts of the proof of GatherScriptSaid, joined: SoE SoF GaL SoZ. -/
import Derived.Shelf.SlSortCmp.NoneTotal
import Derived.Test.YtoojpagpkbcfjaaGreatJGatherScript12
import Derived.Test.YtoojpagpkbcfjaaGreatJGatherScript8
import Derived.Test.YtoojpagpkbcfjaaGreatJGatherScript13
/- slices.SortFunc of spans: its contract. -/
namespace Go.Proofs.YtoojpagpkbcfjaaGreat
open Go.RowKit Go.Shelf Go.Sort

theorem flat_els {w : World} {g : Nat} [Inhabited (SortEl w g)] (d : Array (SortEl w g)) : (flatK (fun e => elC e.val) 11 d).toList = els (d.toList.map Subtype.val) := by
  apply List.ext_getElem?
  intro j
  by_cases hj : j < d.size * 11
  · have hj1 : j < (flatK (fun e : SortEl w g => elC e.val) 11 d).size := by rw [size_flatK]; exact hj
    have hq : j / 11 < d.size := by omega
    have hm : j % 11 < 11 := Nat.mod_lt _ (by omega)
    have h1 := els_get (l := d.toList.map Subtype.val) (i := j / 11) (e := d[j / 11].val) (by simp [hq]) (j % 11) hm
    rw [show j / 11 * 11 + j % 11 = j from by omega] at h1
    rw [h1, Array.getElem?_toList, Array.getElem?_eq_getElem hj1]
    have h2 := get_flatK (fun e : SortEl w g => elC e.val) 11 d j hj
    rw [getElem!_pos _ j hj1, getElem!_pos d (j / 11) hq] at h2
    rw [h2, List.getElem!_eq_getElem?_getD, List.getElem?_eq_getElem (by rw [elC_length]; exact hm)]
    rfl
  · rw [List.getElem?_eq_none (by rw [Array.length_toList, size_flatK]; omega), List.getElem?_eq_none (by rw [els_length]; simp; omega)]
theorem sizeOf_span (w : World) : (Go.sizeOf 40).run Tryz.prog w = .ok 11 w := by
  have h : (Tryz.prog.info? 40).map (·.size) = some 11 := by kernel_rfl
  cases hq : Tryz.prog.info? 40 with
  | none => simp [hq] at h
  | some i =>
    have hs : i.size = 11 := by simpa [hq] using h
    simp [sizeOf, typeInfo, Sem.run_bind, hq, hs]
theorem isAgg_span (w : World) : (isAgg 40).run Tryz.prog w = .ok true w := by
  unfold isAgg
  rw [Sem.run_bind, run_underlying Tryz.underlying40 w]
  rfl
/-- slices.SortFunc of spans by Compare. -/
def SortPost (w : World) (base : Nat) (v : Value) (n : Nat) (l : List El) (e : Ending) (w' : World) : Prop :=
  e = .returned (.tuple #[]) ∧ ∃ l', sps l' = ordS (sps l) ∧ RowS w' base v n l' ∧ w.grownBy w' v.ownBlock ∧ ∀ e ∈ l', e ∈ l
set_option maxRecDepth 100000 in
theorem sortSpans {base n cap : Nat} {A : Option Addr} {l : List El} (w : World) (h : RowS w base (.slice A n cap) n l) (hn : n < 4611686018427387904) :
    Calls Tryz.prog 62 #[.slice A n cap, .func (.func 63) #[] #[]] w (SortPost w base (.slice A n cap) n l) := by
  rcases h.own.2 with ⟨h1, h2⟩ | ⟨g, cap', cur, hv, hbase, hb, hnc, hcm, hcs, htk⟩
  · injection h1 with e1 _ e3
    subst e1 e3 h2
    refine (AnyF.slices_SortFunc_none Try.sortSp none 0 _ w).mono ?_
    rintro e w' ⟨rfl, rfl⟩
    have hl : l = [] := List.eq_nil_of_length_eq_zero h.len
    subst hl
    exact ⟨rfl, [], rfl, h, World.grownBy.refl _ _, fun _ h => h⟩
  · injection hv with e1 _ e3
    subst e1 e3
    have hgw : g < w.heap.size := (Array.getElem?_eq_some_iff.1 hb).1
    have hF : ∀ e ∈ l, Far w g e := fun e he => ⟨h.ok e he, fun ht a ha hg => h.far e he ht a ha (by rw [← hg]; rfl)⟩
    letI : Inhabited (SortEl w g) := ⟨sortZero w g⟩
    obtain ⟨d, hd⟩ : ∃ d : Array (SortEl w g), d.toList.map Subtype.val = l := ⟨(l.attach.map fun e => (⟨e.1, hF e.1 e.2⟩ : SortEl w g)).toArray, by simp⟩
    have hds : d.size = n := by
      have := congrArg List.length hd
      simpa [h.len] using this
    have hfl := flat_els d
    rw [hd] at hfl
    have hH : HoldsK (fun e : SortEl w g => elC e.val) 11 w g 0 d := by
      intro j hj
      have hj1 : (els l)[j]? = some ((flatK (fun e : SortEl w g => elC e.val) 11 d)[j]!) := by
        rw [← hfl, Array.getElem?_toList, Array.getElem?_eq_getElem hj, getElem!_pos _ j hj]
      have h1 := h.own.cells (g := g) rfl j _ hj1
      rw [Addr.add_lit] at h1
      exact ⟨h1, by simp [World.frozen?, hb]⟩
    have hcmp : CmpLays Tryz.prog 63 #[] (fun e : SortEl w g => elC e.val) 11 (fun x y : SortEl w g => spCmp x.val.s y.val.s) g 0 d.size w := by
      intro m os dk hs x y
      have hgr := size_sortWorldK_c (fun e : SortEl w g => elC e.val) 11 w g 0 m dk os
      have hrb : ∀ z : SortEl w g, RbT (sortWorldK (fun e : SortEl w g => elC e.val) 11 w g 0 m dk os) w.heap.size z.val.A z.val.s.tags := fun z hne => by
        obtain ⟨b, o, hA, hlt, hc⟩ := z.property.ok.rd hne
        have ht : z.val.s.tags ≠ [] := fun e => hne (by rw [e]; rfl)
        refine ⟨b, o, hA, hlt, fun j u hu => ?_⟩
        exact (cell?_sortWorldK_other _ 11 w g 0 m dk os ⟨b, o + j, none⟩ (show b ≠ g from z.property.far ht ⟨b, o, none⟩ hA) hlt).trans (hc j u hu)
      refine Calls.mono (spCompareG x.val.s y.val.s _ (hrb x) (hrb y) x.property.ok.len y.property.ok.len hgr x.property.ok.max y.property.ok.max) ?_
      rintro e w' ⟨he, hG⟩
      exact ⟨he, hG.grow⟩
    have hrun := AnyQ.slices_SortFunc Try.sortSp 11 isAgg_span sizeOf_span (fun e : SortEl w g => elC e.val) (fun x => elC_length x.val) (fun x => by
      have := spC_one x.val.s x.val.A x.val.n x.val.c
      rw [Array.all_eq_true'] at this
      exact fun v hv => this v (by simpa [elC] using hv)) (fun x y : SortEl w g => spCmp x.val.s y.val.s) (swo_sp fun x : SortEl w g => x.val.s) 63 #[] g 0 cap d w (fun _ _ => rfl) hcmp hH hgw (by omega)
    rw [hds] at hrun
    refine Calls.mono hrun ?_
    rintro e w' ⟨rfl, d', q, os, hp, hst, rfl⟩
    have hgr := grown_sort (fun e : SortEl w g => elC e.val) 11 w g q d' os
    have hs' : d'.size = n := hp.1.trans hds
    have hperm : (d'.toList).Perm d.toList := by
      have := hp.2.2
      rw [show d'.extract 0 n = d' by rw [← hs']; simp, show d.extract 0 n = d by rw [← hds]; simp] at this
      exact this
    have hmem : ∀ e ∈ d'.toList.map Subtype.val, Far w g e ∧ e ∈ l := fun e he => by
      obtain ⟨x, hx, rfl⟩ := List.mem_map.1 he
      exact ⟨x.property, by rw [← hd]; exact List.mem_map.2 ⟨x, hperm.mem_iff.1 hx, rfl⟩⟩
    have hfl' := flat_els d'
    refine ⟨rfl, d'.toList.map Subtype.val, ?_, ⟨?_, by simp [hs'], ?_, ?_⟩, hgr, fun e he => (hmem e he).2⟩
    · refine ordS_eq ?_ ?_
      · rw [← hd]
        exact (hperm.map _).map _
      · rw [SortedS, List.pairwise_iff_getElem]
        intro i j hi hj hij
        simp only [sps, List.length_map, Array.length_toList] at hi hj
        have h1 := hst i j (Nat.zero_le _) hij (by omega)
        rw [getElem!_pos d' i hi, getElem!_pos d' j hj] at h1
        simp only [ltOf, decide_eq_false_iff_not] at h1
        simp only [sps, List.getElem_map, Array.getElem_toList]
        have h2 := spCmp_cmp.neg d'[i].val.s d'[j].val.s
        omega
    · refine ⟨by rw [els_length]; simp [hs'], .inr ⟨g, cap, _, rfl, hbase, heap_sortK d' hb, hnc, hcm, by simp [putCells, hcs], ?_⟩⟩
      rw [← hfl', show n * 11 = (flatK (fun e : SortEl w g => elC e.val) 11 d').size by rw [size_flatK, hs']]
      exact take_putCellsK cur _ (by rw [size_flatK, hs', hcs]; exact Nat.mul_le_mul_right 11 hnc)
    · intro e he
      obtain ⟨hf, _⟩ := hmem e he
      refine ⟨?_, hf.ok.len, hf.ok.max⟩
      by_cases ht : e.s.tags = []
      · rw [ht]
        exact Rd.nil
      · exact hf.ok.rd.grownS hgr fun a ha e => hf.far ht a ha (Option.some.inj e).symm
    · intro e he ht a ha
      exact h.far e (hmem e he).2 ht a ha
end Go.Proofs.YtoojpagpkbcfjaaGreat


/- Rows of spans of the call's own: append; span.Order. -/
namespace Go.Proofs.YtoojpagpkbcfjaaGreat
open Go.RowKit
attribute [local go_sem ↓] loadK_shut

/-- The same, the tags made by the call too. -/
def OutPostZ (w : World) (n : Nat) (ss : List Sp) (e : Ending) (w' : World) : Prop :=
  ∃ A' c' l', e = .returned (.slice A' n c') ∧ sps l' = ss ∧ RowS w' w.heap.size (.slice A' n c') n l' ∧ Below w.heap.size w w' ∧ ∀ e ∈ l', ∀ a, e.A = some a → w.heap.size ≤ a.block
set_option maxRecDepth 100000 in
set_option maxHeartbeats 2000000 in
theorem spOrderZ {A : Option Addr} {c n B : Nat} {l : List El} (w : World) (hf : RbS w B A l) (hn : l.length = n) (hB : B ≤ w.heap.size) (hnl : n ≤ 1000000) (hsm : ∀ e ∈ l, e.n ≤ 1000000) :
    Calls Tryz.prog 49 #[.slice A n c] w (OutPostZ w n (ordS (sps l))) := by
  have HN := Lib.hid hn
  have HSM := Lib.hid hsm
  clear hn hsm
  go_enter Tryz.func49, Tryz.ntmps49
  go_wp2
  go_loopw [3, 8] (fun v iv_ wr => ∃ (j : Nat) (A' : Option Addr) (c' : Nat) (l' : List El), j ≤ n ∧ v = .slice A' j c' ∧ iv_ = .int .i64 j ∧ sps l' = sps (l.take j) ∧ RowS wr w.heap.size (.slice A' j c') j l' ∧ Below w.heap.size w wr ∧ Hid (∀ e ∈ l', ∀ a, e.A = some a → w.heap.size ≤ a.block)) (fun _ i _ => n - (intOf i).toNat)
  case atStart => exact ⟨0, none, 0, [], by omega, rfl, rfl, rfl, RowS.nil _ _, Below.refl _ _, Lib.hid fun e he => by cases he⟩
  case round =>
    obtain ⟨j, A', c', l', hj, rfl, rfl, hl', hrow, hb, HLO⟩ := hrel
    have HL := Lib.hid hl'
    clear hl'
    by_cases hlt : j < n
    · have hlt' : (j : Int) < (n : Int) := by omega
      obtain ⟨x, hx⟩ : ∃ x, l[j]? = some x := ⟨_, List.getElem?_eq_getElem (by rw [HN.out]; exact hlt)⟩
      obtain ⟨b, o, rfl, hbb, hc, hok⟩ := (hf.below (hb.mono hB)).get hx
      have hld := loadK_el hc
      have hxn := HSM.out x (List.mem_of_getElem? hx)
      have HX := Lib.hid hx
      have hln := hok.len
      have hbw := hb.size
      have hb1 : Below wr.heap.size wr (wr.alloc (.cells (spC x.s x.A x.n x.c) 40)) := (Below.refl _ wr).alloc (Nat.le_refl _) _
      have bk1 := Bk.new wr 40 (spC x.s x.A x.n x.c)
      have hld1 := loadK_sp bk1
      have hrow1 := hrow.bS hb1
      have hok1 := (hok.below (hb1.mono (Nat.le_trans hB hbw)))
      have hcp := spCopy (c := x.c) x.s _ hok1.rd hok1.len (Nat.le_trans (Nat.le_trans hB hbw) hb1.size) (by omega)
      have HCP := Lib.hid hcp
      have hbW := hb.trans (hb1.mono hbw)
      clear hc hcp hok hok1 hb1 bk1
      go_wp2_with (go_at_call 41; refine HCP.out.mono ?_)
      rintro e w2 ⟨A2, c2, rfl, hr2, hb2, hc2, hlo2, hnil2⟩
      have hrow2 := hrow1.bS hb2
      obtain ⟨el, hel⟩ : ∃ el : El, el = ⟨x.s, A2, x.n, c2⟩ := ⟨_, rfl⟩
      have hb3 : Below w2.heap.size w2 (w2.alloc (.cells (spC x.s A2 x.n c2) 40)) := (Below.refl _ w2).alloc (Nat.le_refl _) _
      have hrow3 := hrow2.bS hb3
      have hek : ElOk (w2.alloc (.cells (spC x.s A2 x.n c2) 40)) (w2.alloc (.cells (spC x.s A2 x.n c2) 40)).heap.size ⟨x.s, A2, x.n, c2⟩ := ⟨Rd.belowS hr2 hb3, hln, by show x.n ≤ _; omega⟩
      have hrd := rd_span (w := w2) rfl ⟨x.s, A2, x.n, c2⟩
      have hbw2 : w.heap.size ≤ w2.heap.size := Nat.le_trans hbW.size hb2.size
      have hbase : w.heap.size ≤ (w2.alloc (.cells (spC x.s A2 x.n c2) 40)).heap.size := Nat.le_trans hbw2 hb3.size
      have hbX := (hbW.trans (hb2.mono hbW.size)).trans (hb3.mono hbw2)
      have hlo3 : ∀ a, A2 = some a → w.heap.size ≤ a.block := fun a ha => Nat.le_trans hbW.size (hlo2 a ha)
      have hown : ∀ k, (Value.slice A' j c').ownBlock = some k → k < wr.heap.size ∧ w.heap.size ≤ k := hrow.own_lt
      clear hrow1 hrow2 hld1
      go_wp2_with (at_builtin; go_loud (refine wpList_appS _ rfl (.tmp 12) (.tmp 15) rfl w.heap.size _ j l' rfl hrow3.own _ _ 1 1 [⟨x.s, A2, x.n, c2⟩] rfl rfl hrd (by omega) hbase ?_))
      intro A3 c3 w3 hap _
      have hrow4 := hrow3.app (es := [⟨x.s, A2, x.n, c2⟩]) hap (by simpa using hek) (fun e he _ a ha => by
        obtain rfl : e = _ := by simpa using he
        intro e1
        have h1 := (hown _ e1).1
        have h2 := hlo2 a ha
        have h3 : wr.heap.size < (wr.alloc (.cells (spC x.s x.A x.n x.c) 40)).heap.size := by simp
        omega)
      go_wp2
      go_roundw
      case rel =>
        refine ⟨j + 1, A3, c3, l' ++ [⟨x.s, A2, x.n, c2⟩], by omega, rfl, by go_num, ?_, hrow4, ?_, Lib.hid fun e he a ha => ?_⟩
        · rw [take_snoc HX.out, sps_append, sps_append, HL.out]
          rfl
        · exact hbX.trans (hap.below hbase (fun k hk => (hown k hk).2))
        · rcases List.mem_append.1 he with h1 | h1
          · exact HLO.out e h1 a ha
          · rw [List.mem_singleton.1 h1] at ha
            exact hlo3 a ha
      case measure => simp [intOf]; omega
    · have hlt' : decide ((j : Int) < (n : Int)) = false := by simp; omega
      obtain rfl : j = n := by omega
      have hs := sortSpans wr hrow (by omega)
      have HS := Lib.hid hs
      clear hs
      go_wp2_with (go_at_call 62; refine HS.out.mono ?_; rintro e w' ⟨rfl, l2, hl2, hrow2, hgr, hmem⟩)
      go_ret
      refine ⟨A', c', l2, rfl, ?_, hrow2, ?_, fun e he => HLO.out e (hmem e he)⟩
      · rw [hl2, HL.out, List.take_of_length_le (by rw [HN.out]; omega)]
      · refine hb.trans ?_
        exact ⟨hgr.os, hgr.tape, hgr.output, hgr.size, fun i hi => hgr.block i (Nat.lt_of_lt_of_le hi hb.size) (fun e => by have := (hrow.own_lt _ e.symm).2; omega)⟩
theorem spOrder {A : Option Addr} {c n B : Nat} {l : List El} (w : World) (hf : RbS w B A l) (hn : l.length = n) (hB : B ≤ w.heap.size) (hnl : n ≤ 1000000) (hsm : ∀ e ∈ l, e.n ≤ 1000000) :
    Calls Tryz.prog 49 #[.slice A n c] w (OutPost w n (ordS (sps l))) :=
  (spOrderZ w hf hn hB hnl hsm).mono fun _ _ ⟨A', c', l', h1, h2, h3, h4, _⟩ => ⟨A', c', l', h1, h2, h3, h4⟩
end Go.Proofs.YtoojpagpkbcfjaaGreat


/- Layer 20: the gatherer as it lies. -/
namespace Go.Proofs.YtoojpagpkbcfjaaGreat
open Go.RowKit

/-- A closed trace as it lies. -/
structure ClE where
  t : Tr
  l : List El
  A : Option Addr
  c : Nat
def clC (e : ClE) : List Value := [.int .u64 (e.t.hi : Nat), .int .u64 (e.t.lo : Nat), .slice e.A e.l.length e.c]
theorem clC_length (e : ClE) : (clC e).length = 3 := rfl
theorem clC_one (e : ClE) : ∀ u ∈ clC e, u.oneCell' = true := by
  intro u hu
  simp [clC] at hu
  rcases hu with rfl | rfl | rfl <;> rfl
abbrev clV (e : ClE) : Value := .agg #[.int .u64 (e.t.hi : Nat), .int .u64 (e.t.lo : Nat), .slice e.A e.l.length e.c]
/-- What the closed traces are. -/
def clsOf (l : List ClE) : List (Tr × List Sp) := l.map fun e => (e.t, sps e.l)
/-- Where all lies. -/
structure GMem where
  ob : Nat
  eb : Nat
  tv : Value
  cv : Value
  xb : Tr → Nat
  xv : Tr → Value
  xe : Tr → List El
  Y : List Tr
  E : List Tr
  dl : List Due
  ce : List ClE
  ex : Option Tr
/-- Its cells. -/
def gaC (G : GSt) (m : GMem) : Array Value := #[.int .i64 G.win, .int .i64 G.cap, .int .i64 G.now, .map (some m.ob), m.tv, .map (some m.eb), m.cv, .int .i64 (G.late : Nat)]
/-- A part of a row, its front cut off. -/
def Qf {α : Type} (f : α → List Value) (k : Nat) (t : TypeId) (w : World) (base : Nat) (v : Value) (xs : List α) : Prop :=
  (v = .slice none 0 0 ∧ xs = []) ∨ ∃ g off cap cur, v = .slice (some ⟨g, off, none⟩) xs.length cap ∧ base ≤ g ∧ Bk w g t cur ∧ xs.length ≤ cap ∧ off + cap * k ≤ cur.size ∧ ∀ j u, (flatR f xs)[j]? = some u → cur[off + j]? = some u
/-- A span's tags lie in Z. -/
structure ElZ (w : World) (Z : Nat → Prop) (e : El) : Prop where
  ok : ElOk w w.heap.size e
  z : e.s.tags ≠ [] → ∀ a, e.A = some a → Z a.block
/-- A closed trace's spans lie in Z. -/
structure ClZ (w : World) (Z : Nat → Prop) (e : ClE) : Prop where
  rd : RbS w w.heap.size e.A e.l
  z : e.l ≠ [] → ∀ a, e.A = some a → Z a.block
  el : ∀ x ∈ e.l, ElZ w Z x
  cap : e.l.length ≤ e.c
/-- The gatherer at block F: what changes in the blocks K, what does not in Z. -/
structure Gf (base : Nat) (w : World) (K Z : Nat → Prop) (F : Nat) (G : GSt) (m : GMem) : Prop where
  blk : Bk w F 69 (gaC G m)
  opn : Mh trV ptV w m.ob (m.Y.map fun t => (t, m.xb t))
  opnP : m.Y.Perm (G.op.map (·.t))
  xfl : ∀ x ∈ G.op, Bk w (m.xb x.t) 85 #[m.xv x.t, .int .i64 x.time]
  xro : ∀ x ∈ G.op, w.ownsRow base 40 11 (m.xv x.t) x.l.length (els (m.xe x.t))
  xsp : ∀ x ∈ G.op, sps (m.xe x.t) = x.l
  xel : ∀ x ∈ G.op, ∀ e ∈ m.xe x.t, ElZ w Z e
  xinj : ∀ x ∈ G.op, ∀ y ∈ G.op, m.xb x.t = m.xb y.t → x.t = y.t
  rinj : ∀ x ∈ G.op, ∀ y ∈ G.op, ∀ g, (m.xv x.t).ownBlock = some g → (m.xv y.t).ownBlock = some g → x.t = y.t
  evr : Mh trV (fun b : Bool => .bool b) w m.eb (m.E.map fun t => (t, true))
  evrM : ∀ t, t ∈ m.E ↔ t ∈ G.all
  tur : DuR w base m.tv m.dl
  hp : Heap dLt m.dl m.dl.length
  hin : ∀ x ∈ G.op, m.ex ≠ some x.t → x.due ∈ m.dl
  cls : Qf clC 3 47 w base m.cv m.ce
  clsE : clsOf m.ce = G.cl
  clz : ∀ e ∈ m.ce, ClZ w Z e
  neE : m.ob ≠ m.eb
  kF : K F
  kO : K m.ob
  kE : K m.eb
  kT : ∀ g, m.tv.ownBlock = some g → K g
  kC : ∀ g, m.cv.ownBlock = some g → K g
  kX : ∀ x ∈ G.op, K (m.xb x.t)
  kR : ∀ x ∈ G.op, ∀ g, (m.xv x.t).ownBlock = some g → K g
  kz : ∀ b, K b → ¬Z b
  lo : ∀ b, K b → base ≤ b ∧ b < w.heap.size
  loZ : ∀ b, Z b → b < w.heap.size
section
variable {base F : Nat} {w w' : World} {K K' Z Z' : Nat → Prop} {G : GSt} {m : GMem}
theorem ElZ.keep {e : El} (h : ElZ w Z e) (hb : ∀ b, Z b → w'.heap[b]? = w.heap[b]?) (hs : w.heap.size ≤ w'.heap.size) (hz : ∀ b, Z b → Z' b) : ElZ w' Z' e := by
  refine ⟨⟨?_, h.ok.len, h.ok.max⟩, fun h1 a ha => hz _ (h.z h1 a ha)⟩
  intro hn
  obtain ⟨b, o, hA, hlt, hc⟩ := h.ok.rd hn
  have hne : e.s.tags ≠ [] := fun e0 => hn (by rw [e0]; rfl)
  exact ⟨b, o, hA, Nat.lt_of_lt_of_le hlt hs, fun j u hj => (World.cell?_of_block (a := ⟨b, o + j, none⟩) (hb b (h.z hne _ hA))).trans (hc j u hj)⟩
theorem ClZ.keep {e : ClE} (h : ClZ w Z e) (hb : ∀ b, Z b → w'.heap[b]? = w.heap[b]?) (hs : w.heap.size ≤ w'.heap.size) (hz : ∀ b, Z b → Z' b) : ClZ w' Z' e := by
  refine ⟨⟨?_, fun x hx => ((h.el x hx).keep hb hs hz).ok⟩, fun h1 a ha => hz _ (h.z h1 a ha), fun x hx => (h.el x hx).keep hb hs hz, h.cap⟩
  intro hn
  obtain ⟨b, o, hA, hlt, hc⟩ := h.rd.rd hn
  have hne : e.l ≠ [] := fun e0 => hn (by rw [e0]; rfl)
  exact ⟨b, o, hA, Nat.lt_of_lt_of_le hlt hs, fun j u hj => (World.cell?_of_block (a := ⟨b, o + j, none⟩) (hb b (h.z hne _ hA))).trans (hc j u hj)⟩
theorem Qf.keep {α : Type} {f : α → List Value} {k : Nat} {t : TypeId} {v : Value} {xs : List α} (h : Qf f k t w base v xs) (hb : ∀ g, v.ownBlock = some g → w'.heap[g]? = w.heap[g]?) : Qf f k t w' base v xs := by
  rcases h with h | ⟨g, off, cap, cur, rfl, h1, h2, h3⟩
  · exact .inl h
  · exact .inr ⟨g, off, cap, cur, rfl, h1, (hb g rfl).trans h2, h3⟩
/-- What leaves its blocks alone keeps it. -/
theorem Gf.keep (h : Gf base w K Z F G m) (hf : FrK w w' K') (hd : ∀ b, K b → ¬K' b) (hdz : ∀ b, Z b → ¬K' b) : Gf base w' K Z F G m :=
  have hb : ∀ b, K b → w'.heap[b]? = w.heap[b]? := fun b hb => hf.block b (h.lo b hb).2 (hd b hb)
  have hz : ∀ b, Z b → w'.heap[b]? = w.heap[b]? := fun b hb => hf.block b (h.loZ b hb) (hdz b hb)
  { h with
    blk := (hb _ h.kF).trans h.blk
    opn := h.opn.of (hb _ h.kO)
    xfl := fun x hx => (hb _ (h.kX x hx)).trans (h.xfl x hx)
    xro := fun x hx => own_of (h.xro x hx) fun g e => hb g (h.kR x hx g e)
    xel := fun x hx e he => (h.xel x hx e he).keep hz hf.size fun _ e => e
    evr := h.evr.of (hb _ h.kE)
    tur := own_of h.tur fun g e => hb g (h.kT g e)
    cls := h.cls.keep fun g e => hb g (h.kC g e)
    clz := fun e he => (h.clz e he).keep hz hf.size fun _ e => e
    lo := fun b e => ⟨(h.lo b e).1, Nat.lt_of_lt_of_le (h.lo b e).2 hf.size⟩
    loZ := fun b e => Nat.lt_of_lt_of_le (h.loZ b e) hf.size }
theorem Gf.below (h : Gf base w K Z F G m) (hb : Below w.heap.size w w') : Gf base w' K Z F G m := h.keep (FrK.of_below hb (Nat.le_refl _) Kno) (fun _ _ hf => hf) fun _ _ hf => hf
theorem Gf.hin0 (h : Gf base w K Z F G m) (hex : m.ex = none) : ∀ x ∈ G.op, x.due ∈ m.dl := fun x hx => h.hin x hx (by rw [hex]; intro e; cases e)
theorem Gf.baseLe (h : Gf base w K Z F G m) : base ≤ w.heap.size := by
  have := h.lo F h.kF
  omega
/-- Cells of F, stored: numbers alone. -/
theorem Gf.stored (h : Gf base w K Z F G m) {G' : GSt} (i : Nat) (u : Value) (hc : gaC G' m = (gaC G m).setIfInBounds i u) (h1 : G'.op = G.op) (h2 : G'.all = G.all) (h3 : G'.cl = G.cl) : Gf base (w.setCell ⟨F, i, none⟩ u) K Z F G' m := by
  have hf := FrK.set w F i u
  have hb : ∀ b, b ≠ F → b < w.heap.size → (w.setCell ⟨F, i, none⟩ u).heap[b]? = w.heap[b]? := fun b hb hl => hf.block b hl hb
  have hbk : ∀ {b : Nat} {t : TypeId} {cs : Array Value}, Bk w b t cs → t ≠ 69 → (w.setCell ⟨F, i, none⟩ u).heap[b]? = w.heap[b]? := fun {b t cs} hB ht => hb b (ne_of_type hB h.blk ht) hB.lt
  have hmp : ∀ {κ ν : Type} {kv : κ → Value} {vv : ν → Value} {b : Nat} {L : List (κ × ν)}, Mh kv vv w b L → Mh kv vv (w.setCell ⟨F, i, none⟩ u) b L := fun {κ ν kv vv b L} hM => by
    obtain ⟨es, c, he⟩ := hM.obj
    refine hM.of (hb b (fun e => ?_) hM.lt)
    rw [e, show w.heap[F]? = _ from h.blk] at he
    cases he
  have hz : ∀ b, Z b → (w.setCell ⟨F, i, none⟩ u).heap[b]? = w.heap[b]? := fun b hb2 => hb b (fun e => h.kz F h.kF (e ▸ hb2)) (h.loZ b hb2)
  exact { blk := by rw [hc]; exact h.blk.set i u
          opn := hmp h.opn
          opnP := by rw [h1]; exact h.opnP
          xfl := by
            rw [h1]
            exact fun x hx => (hbk (h.xfl x hx) (by decide)).trans (h.xfl x hx)
          xro := by
            rw [h1]
            exact fun x hx => own_of (h.xro x hx) fun g e => by
              obtain ⟨cur, hcur⟩ := own_bk (h.xro x hx) e
              exact hbk hcur (by decide)
          xsp := by rw [h1]; exact h.xsp
          xel := by
            rw [h1]
            exact fun x hx e he => (h.xel x hx e he).keep hz hf.size fun _ e => e
          xinj := by rw [h1]; exact h.xinj
          rinj := by rw [h1]; exact h.rinj
          evr := hmp h.evr
          evrM := by rw [h2]; exact h.evrM
          tur := own_of h.tur fun g e => by
            obtain ⟨cur, hcur⟩ := own_bk h.tur e
            exact hbk hcur (by decide)
          hp := h.hp
          hin := by rw [h1]; exact h.hin
          cls := h.cls.keep fun g e => by
            rcases h.cls with ⟨h4, -⟩ | ⟨g', off, cap, cur, h4, -, h5, -⟩
            · rw [h4] at e
              cases e
            · rw [h4] at e
              have e : g' = g := Option.some.inj e
              exact hbk (e ▸ h5) (by decide)
          clsE := by rw [h3]; exact h.clsE
          clz := fun e he => (h.clz e he).keep hz hf.size fun _ e => e
          neE := h.neE
          kF := h.kF
          kO := h.kO
          kE := h.kE
          kT := h.kT
          kC := h.kC
          kX := by rw [h1]; exact h.kX
          kR := by rw [h1]; exact h.kR
          kz := h.kz
          lo := fun b e => ⟨(h.lo b e).1, Nat.lt_of_lt_of_le (h.lo b e).2 hf.size⟩
          loZ := fun b e => Nat.lt_of_lt_of_le (h.loZ b e) hf.size }
end
end Go.Proofs.YtoojpagpkbcfjaaGreat


/- ref.Order by insertion, once more: the tags of what comes out are new. -/
namespace Go.Proofs.YtoojpagpkbcfjaaGreat
open Go.RowKit
attribute [local go_sem ↓] loadK_shut
attribute [local go_sem ↓] appK_shut
attribute [local go_sem ↓] sliced_s
attribute [local go_sem ↓ high] sliced_s0

set_option maxRecDepth 100000 in
set_option maxHeartbeats 4000000 in
/-- Order, its tags told to be new. -/
theorem rOrderZ {A : Option Addr} {c n B : Nat} {l : List El} (w : World) (hf : RbS w B A l) (hn : l.length = n) (hB : B ≤ w.heap.size) (hnl : n ≤ 100000) (hsm : ∀ e ∈ l, e.n ≤ 1000000) :
    Calls Tryz.prog 50 #[.slice A n c] w (OutPostZ w n (ordS (sps l))) := by
  have HN := Lib.hid hn
  have HSM := Lib.hid hsm
  clear hn hsm
  go_enter Tryz.func50, Tryz.ntmps50
  go_wp2
  go_loopw [3, 4] (fun v iv_ wr => ∃ (j : Nat) (A' : Option Addr) (c' : Nat) (l' : List El), j ≤ n ∧ v = .slice A' j c' ∧ iv_ = .int .i64 j ∧ sps l' = ordS (sps (l.take j)) ∧ RowS wr w.heap.size (.slice A' j c') j l' ∧ Below w.heap.size w wr ∧ Hid (∀ e ∈ l', ∀ a, e.A = some a → w.heap.size ≤ a.block)) (fun _ i _ => n - (intOf i).toNat)
  case atStart => exact ⟨0, none, 0, [], by omega, rfl, rfl, rfl, RowS.nil _ _, Below.refl _ _, Lib.hid fun e he => by cases he⟩
  case round =>
    obtain ⟨j, A', c', l', hj, rfl, rfl, hl', hrow, hb, HNW⟩ := hrel
    have HL := Lib.hid hl'
    clear hl'
    by_cases hlt : j < n
    · have hlt' : (j : Int) < (n : Int) := by omega
      obtain ⟨x, hx⟩ : ∃ x, l[j]? = some x := ⟨_, List.getElem?_eq_getElem (by rw [HN.out]; exact hlt)⟩
      have HX := Lib.hid hx
      have hxn := HSM.out x (List.mem_of_getElem? hx)
      obtain ⟨b, o, rfl, hbb, -, -⟩ := hf.get hx
      have HLOAD : Hid (∀ {W : World}, Below w.heap.size w W → (loadK 40 ⟨b, o + j * 11, none⟩).run Tryz.prog W = .ok (spV x.s x.A x.n x.c) W ∧ ElOk W B x) := fun {W} hW => by
        obtain ⟨b', o', e', -, hc', hok'⟩ := (hf.below (hW.mono hB)).get HX.out
        cases e'
        exact ⟨loadK_el hc', hok'⟩
      have hcap : l'.length ≤ c' := by rw [hrow.len]; exact hrow.cap
      have hjc := hrow.cap
      clear hx
      go_wp2
      obtain ⟨wO, hwO⟩ : ∃ wO, wO = wr := ⟨_, rfl⟩
      subst hwO
      go_loopw [5] (fun v wr2 => ∃ k : Nat, k ≤ j ∧ v = .int .i64 k ∧ (∀ y ∈ l'.drop k, spCmp x.s y.s < 0) ∧ Below wO.heap.size wO wr2) (fun v _ => (intOf v).toNat)
      case atStart => exact ⟨j, Nat.le_refl _, rfl, (fun y hy => by rw [List.drop_eq_nil_of_le (by rw [hrow.len]; exact Nat.le_refl _)] at hy; cases hy), Below.refl _ _⟩
      case round =>
        obtain ⟨k, hk, rfl, hall, hb2⟩ := hrel
        have HA := Lib.hid hall
        clear hall
        by_cases hk0 : k = 0
        · have k0 : decide ((0 : Int) < (k : Int)) = false := by simp; omega
          have k0' : decide (0 < k) = false := by simp; omega
          have HSP : Hid (insS x.s (sps l') = sps (l'.take k) ++ x.s :: sps (l'.drop k)) := insS_sp (by rw [HL.out]; exact ordS_sorted _) HA.out (by rw [hrow.len]; exact hk) (fun y h0 _ => absurd hk0 h0)
          go_wp2_with fail
          go_quiet (fail)
          have HK0 := Lib.hid hk0
          clear hk0 k0 k0'
          have HBW : Hid (Below wO.heap.size wO (wr.drewN nq)) := below_drewN hb2 nq
          obtain ⟨WX, hWX⟩ : ∃ WX, wr.drewN nq = WX := ⟨_, rfl⟩
          rw [hWX] at HBW ⊢
          clear hWX
          have hrowW := hrow.bS HBW.out
          have hbase : w.heap.size ≤ WX.heap.size := Nat.le_trans hb.size HBW.out.size
          have hkj : (k : Int) ≤ (j : Int) := by omega
          have hkc : (k : Int) ≤ (c' : Int) := by omega
          go_wp2_with (at_builtin; go_loud (refine wpList_appS _ rfl (.tmp 32) (.tmp 35) rfl WX.heap.size _ 0 [] rfl (World.ownsRow_lit WX #[] 0 (Nat.le_refl _) (by simp [maxLen]) rfl) WX.heap.size _ (j - k) _ (l'.drop k) rfl (by rw [List.length_drop, hrow.len]) (Rd.alloc (Rd.dropS (cap := c') hrowW.rbs.rd hcap) (Nat.le_refl _) _) (by omega) (by simp) ?_))
          intro A3 c3 w3 hap _
          have hap1 := hap.fresh1
          have hb3 := hap1.below0
          have hrow3 := hrowW.bS hb3
          have hlt3 := hb.trans ((HBW.out.trans (hb3.mono HBW.out.size)).mono hb.size)
          obtain ⟨hld, hokx⟩ := HLOAD.out hlt3
          have hldd : (loadK 40 ⟨b, o + j * 11, none⟩).run Tryz.prog w3.drew = .ok (spV x.s x.A x.n x.c) w3.drew := (HLOAD.out (below_drewN hlt3 1)).1
          have hokd := (HLOAD.out (below_drewN hlt3 1)).2
          have hBd : B ≤ w3.drew.heap.size := Nat.le_trans hB hlt3.size
          have hcp := rCopy (c := x.c) x.s w3.drew hokd.rd hokd.len hBd (by omega)
          have HCP := Lib.hid hcp
          clear hcp
          have hlo := hap1.lo
          have hownW := hrowW.own_lt
          have hne3 : ∀ a, A3 = some a → (Value.slice A' j c').ownBlock ≠ some a.block := fun a ha e1 => by
            have h1 := (hownW _ e1).1
            have h2 := (hlo a ha).1
            omega
          have hown3 := hap1.drew.own
          have hrow3d := hrow3.drewN 1
          have hbase3 : w.heap.size ≤ w3.drew.heap.size := hlt3.size
          go_wp2_with fail
          go_region_with
            (first
              | (go_at_call 45
                 refine HCP.out.mono ?_
                 rintro e w4 ⟨A4, c4, rfl, hr4, hb4, hc4, hlo4, -⟩
                 obtain ⟨A5, c5, w5, A6, c6, w6, hrun5, hrun6, hrow6, hb6⟩ := insRow (e := ⟨x.s, A4, x.n, c4⟩) w3.drew w4 hrow3d hk (by omega) hown3 hne3 hbase3 hb4 ⟨hr4, hokd.len, by show x.n ≤ _; omega⟩ hlo4
                 have HR6 := Lib.hid hrow6
                 have HNE : Hid (∀ e ∈ l'.take k ++ ⟨x.s, A4, x.n, c4⟩ :: l'.drop k, ∀ a, e.A = some a → w.heap.size ≤ a.block) := Lib.hid fun e he a ha => by
                   rcases List.mem_append.1 he with he | he
                   · exact HNW.out e (List.mem_of_mem_take he) a ha
                   · rcases List.mem_cons.1 he with rfl | he
                     · have h1 := hlo4 a ha
                       omega
                     · exact HNW.out e (List.mem_of_mem_drop he) a ha
                 clear hrow6)
              | fail)
          have hsps : sps (l'.take k ++ ⟨x.s, A4, x.n, c4⟩ :: l'.drop k) = ordS (sps (l.take (j + 1))) := by
            rw [take_snoc HX.out, sps_append, sps_append, show sps [x] = [x.s] from rfl, ordS_snoc, ← HL.out, HSP.out]
            rfl
          have HSS := Lib.hid hsps
          clear hsps
          go_wp2
          go_roundw
          case rel => exact ⟨j + 1, A6, c6, _, by omega, rfl, by go_num, HSS.out, HR6.out, (below_drewN hlt3 1).trans hb6, HNE⟩
          case measure => simp [intOf]; omega
        · obtain ⟨kk, hkk⟩ : ∃ kk, kk + 1 = k := ⟨k - 1, by omega⟩
          have k0 : (0 : Int) < (k : Int) := by omega
          have k0' : 0 < k := by omega
          have hsubw : IntKind.i64.wrap ((k : Int) - 1) = (kk : Int) := by simp [IntKind.wrap, IntKind.bits, IntKind.signed]; omega
          have hkj' : (kk : Int) < (j : Int) := by omega
          have hkjn : kk < j := by omega
          have hbd : Below wO.heap.size wO wr.drew := below_drewN hb2 1
          have hbwd : Below w.heap.size w wr.drew := hb.trans (hbd.mono hb.size)
          obtain ⟨hld1, hok1⟩ := HLOAD.out hbwd
          have hrowd := hrow.bS hbd
          obtain ⟨y, hy⟩ : ∃ y, l'[kk]? = some y := ⟨_, List.getElem?_eq_getElem (by rw [hrow.len]; omega)⟩
          have HY := Lib.hid hy
          obtain ⟨b2, o2, hAe, -, -, hok2⟩ := hrowd.rbs.get hy
          subst hAe
          have HLOAD2 : Hid (∀ {W : World}, Below wO.heap.size wO W → (loadK 40 ⟨b2, o2 + kk * 11, none⟩).run Tryz.prog W = .ok (spV y.s y.A y.n y.c) W) := fun {W} hW => by
            obtain ⟨b', o', e', -, hc', -⟩ := (hrow.bS hW).rbs.get HY.out
            cases e'
            exact loadK_el hc'
          have hld2 := HLOAD2.out hbd
          have hcm := rCompare (c1 := x.c) (c2 := y.c) x.s y.s wr.drew (hok1.more (Nat.le_trans hB hbwd.size)).rd hok2.rd hok1.len hok2.len (Nat.le_refl _) hok1.max hok2.max
          obtain ⟨cv, hcv⟩ : ∃ cv, spCmp x.s y.s = cv := ⟨_, rfl⟩
          rw [hcv] at hcm
          have HCV := Lib.hid hcv
          have HCM := Lib.hid hcm
          have HK0 := Lib.hid hk0
          have HKK := Lib.hid hkk
          clear hcm hcv hok1 hok2 hy hk0 hkk hrowd
          go_wp2_with fail
          go_region_held3 (fun w' => (loadK 40 ⟨b, o + j * 11, none⟩).run Tryz.prog w' = .ok (spV x.s x.A x.n x.c) w' ∧ (loadK 40 ⟨b2, o2 + kk * 11, none⟩).run Tryz.prog w' = .ok (spV y.s y.A y.n y.c) w')
            (first | exact ⟨hld1, hld2⟩ | exact ⟨hle1, hle2⟩)
            (first
              | (go_at_call 64
                 refine HCM.out.mono ?_
                 rintro e w5 ⟨rfl, hb5⟩
                 have hb05 := hbd.trans (hb5.mono hbd.size)
                 have hle1 := (HLOAD.out (hb.trans (hb05.mono hb.size))).1
                 have hle2 := HLOAD2.out hb05)
              | fail)
          by_cases hneg : cv < 0
          · have hall2 : ∀ z ∈ l'.drop kk, spCmp x.s z.s < 0 := fun z hz => by
              have h1 : l'.drop kk = y :: l'.drop (kk + 1) := by
                obtain ⟨h2, h3⟩ := List.getElem?_eq_some_iff.1 HY.out
                rw [List.drop_eq_getElem_cons h2, h3]
              rw [h1] at hz
              rcases List.mem_cons.1 hz with rfl | hz
              · rw [HCV.out]
                exact hneg
              · rw [HKK.out] at hz
                exact HA.out z hz
            have HA2 := Lib.hid hall2
            clear hall2 hld1 hld2 hle1 hle2
            go_wp2
            go_roundw
            case rel => exact ⟨kk, by omega, by go_num, HA2.out, hb05⟩
            case measure =>
              have := HKK.out
              simp [intOf]
              omega
          · have hnegd : decide (cv < 0) = false := by simp; omega
            have HSP : Hid (insS x.s (sps l') = sps (l'.take k) ++ x.s :: sps (l'.drop k)) := insS_sp (by rw [HL.out]; exact ordS_sorted _) HA.out (by rw [hrow.len]; exact hk) (fun z h0 hz => by
              rw [show k - 1 = kk from by have := HKK.out; omega, HY.out] at hz
              cases hz
              rw [HCV.out]
              exact hneg)
            have HBW : Hid (Below wO.heap.size wO w5) := hb05
            obtain ⟨WX, hWX⟩ : ∃ WX, w5 = WX := ⟨_, rfl⟩
            subst hWX
            clear hld1 hld2 hle1 hle2 hsubw k0 k0' hkj' hkjn
            have hrowW := hrow.bS HBW.out
            have hbase : w.heap.size ≤ w5.heap.size := Nat.le_trans hb.size HBW.out.size
            have hkj : (k : Int) ≤ (j : Int) := by omega
            have hkc : (k : Int) ≤ (c' : Int) := by omega
            go_wp2_with (at_builtin; go_loud (refine wpList_appS _ rfl (.tmp 32) (.tmp 35) rfl w5.heap.size _ 0 [] rfl (World.ownsRow_lit w5 #[] 0 (Nat.le_refl _) (by simp [maxLen]) rfl) w5.heap.size _ (j - k) _ (l'.drop k) rfl (by rw [List.length_drop, hrow.len]) (Rd.alloc (Rd.dropS (cap := c') hrowW.rbs.rd hcap) (Nat.le_refl _) _) (by omega) (by simp) ?_))
            intro A3 c3 w3 hap _
            have hap1 := hap.fresh1
            have hb3 := hap1.below0
            have hrow3 := hrowW.bS hb3
            have hlt3 := hb.trans ((HBW.out.trans (hb3.mono HBW.out.size)).mono hb.size)
            obtain ⟨hld, hokx⟩ := HLOAD.out hlt3
            have hldd : (loadK 40 ⟨b, o + j * 11, none⟩).run Tryz.prog w3.drew = .ok (spV x.s x.A x.n x.c) w3.drew := (HLOAD.out (below_drewN hlt3 1)).1
            have hokd := (HLOAD.out (below_drewN hlt3 1)).2
            have hBd : B ≤ w3.drew.heap.size := Nat.le_trans hB hlt3.size
            have hcp := rCopy (c := x.c) x.s w3.drew hokd.rd hokd.len hBd (by omega)
            have HCP := Lib.hid hcp
            clear hcp
            have hlo := hap1.lo
            have hownW := hrowW.own_lt
            have hne3 : ∀ a, A3 = some a → (Value.slice (some ⟨b2, o2, none⟩) j c').ownBlock ≠ some a.block := fun a ha e1 => by
              have h1 := (hownW _ e1).1
              have h2 := (hlo a ha).1
              omega
            have hown3 := hap1.drew.own
            have hrow3d := hrow3.drewN 1
            have hbase3 : w.heap.size ≤ w3.drew.heap.size := hlt3.size
            go_wp2_with fail
            go_region_with
              (first
                | (go_at_call 45
                   refine HCP.out.mono ?_
                   rintro e w4 ⟨A4, c4, rfl, hr4, hb4, hc4, hlo4, -⟩
                   obtain ⟨A5, c5, w5, A6, c6, w6, hrun5, hrun6, hrow6, hb6⟩ := insRow (e := ⟨x.s, A4, x.n, c4⟩) w3.drew w4 hrow3d hk (by omega) hown3 hne3 hbase3 hb4 ⟨hr4, hokd.len, by show x.n ≤ _; omega⟩ hlo4
                   have HR6 := Lib.hid hrow6
                   have HNE : Hid (∀ e ∈ l'.take k ++ ⟨x.s, A4, x.n, c4⟩ :: l'.drop k, ∀ a, e.A = some a → w.heap.size ≤ a.block) := Lib.hid fun e he a ha => by
                     rcases List.mem_append.1 he with he | he
                     · exact HNW.out e (List.mem_of_mem_take he) a ha
                     · rcases List.mem_cons.1 he with rfl | he
                       · have h1 := hlo4 a ha
                         omega
                       · exact HNW.out e (List.mem_of_mem_drop he) a ha
                   clear hrow6)
                | fail)
            have hsps : sps (l'.take k ++ ⟨x.s, A4, x.n, c4⟩ :: l'.drop k) = ordS (sps (l.take (j + 1))) := by
              rw [take_snoc HX.out, sps_append, sps_append, show sps [x] = [x.s] from rfl, ordS_snoc, ← HL.out, HSP.out]
              rfl
            have HSS := Lib.hid hsps
            clear hsps
            go_wp2
            go_roundw
            case rel => exact ⟨j + 1, A6, c6, _, by omega, rfl, by go_num, HSS.out, HR6.out, (below_drewN hlt3 1).trans hb6, HNE⟩
            case measure => simp [intOf]; omega
    · have hlt' : decide ((j : Int) < (n : Int)) = false := by simp; omega
      obtain rfl : j = n := by omega
      have hfin : sps l' = ordS (sps l) := by rw [HL.out, List.take_of_length_le (by rw [HN.out]; omega)]
      have HF := Lib.hid hfin
      clear hfin
      go_wp2
      go_ret
      exact ⟨A', c', l', rfl, HF.out, hrow, hb, HNW.out⟩
end Go.Proofs.YtoojpagpkbcfjaaGreat

