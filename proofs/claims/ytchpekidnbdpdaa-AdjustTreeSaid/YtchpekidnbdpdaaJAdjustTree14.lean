/- Texts of the proof of AdjustTreeSaid, joined: GrS SoC. -/
import Derived.Sort.Grow
import Derived.Shelf.SlSortCmp.WholeK
import Derived.Test.YtchpekidnbdpdaaJAdjustTree2
import Derived.Test.YtchpekidnbdpdaaJAdjustTree6
/- Draws and new blocks, nothing else; what a sort wants of lists of structs, whatever they are. -/
namespace Go.Proofs.Ytchpekidnbdpdaa
open Go.RowKit Go.Shelf Go.Sort

/-- Draws and new blocks, nothing else. -/
structure Gr (w w' : World) : Prop where
  b : Below w.heap.size w w'
  d : w.drawn ≤ w'.drawn
theorem Gr.refl (w : World) : Gr w w := ⟨Below.refl _ _, Nat.le_refl _⟩
theorem Gr.trans {a b c : World} (h : Gr a b) (k : Gr b c) : Gr a c := ⟨h.b.trans (k.b.mono h.b.size), Nat.le_trans h.d k.d⟩
theorem Gr.alloc {a b : World} (h : Gr a b) (o : Obj) : Gr a (b.alloc o) := ⟨h.b.alloc h.b.size o, h.d⟩
theorem Gr.grow {w w' : World} (h : Gr w w') : ∃ q os, w' = Go.Sort.grow (w.drewN q) os := by
  obtain ⟨h1, h2⟩ := h
  obtain ⟨hp, tp, dr, os, out⟩ := w
  obtain ⟨hp', tp', dr', os', out'⟩ := w'
  obtain ⟨e1, e2, e3, e4, e5⟩ := h1
  simp only at e1 e2 e3 e4 e5 h2
  subst e1 e2 e3
  refine ⟨dr' - dr, hp'.extract hp.size hp'.size, ?_⟩
  have hd : dr + (dr' - dr) = dr' := by omega
  have hh : hp ++ hp'.extract hp.size hp'.size = hp' := by
    apply Array.ext_getElem?
    intro i
    by_cases hi : i < hp.size
    · rw [Array.getElem?_append_left hi, e5 i hi]
    · rw [Array.getElem?_append_right (by omega), Array.getElem?_extract]
      by_cases hi2 : i < hp'.size
      · rw [if_pos (by omega), show hp.size + (i - hp.size) = i from by omega]
      · rw [if_neg (by omega), Array.getElem?_eq_none (by omega)]
  simp only [Go.Sort.grow, World.drewN, hd, hh]
theorem Cmp.le {α : Type} {f : α → α → Int} (F : Cmp f) {a b c : α} (h1 : f a b ≤ 0) (h2 : f b c ≤ 0) : f a c ≤ 0 := by
  by_cases e1 : f a b = 0
  · rw [(F.eq a b).1 e1]
    exact h2
  · by_cases e2 : f b c = 0
    · rw [← (F.eq b c).1 e2]
      exact h1
    · have r1 := F.rng a b
      have r2 := F.rng b c
      have := F.tr a b c (by omega) (by omega)
      omega
theorem Cmp.anti {α : Type} {f : α → α → Int} (F : Cmp f) {a b : α} (h1 : f a b ≤ 0) (h2 : f b a ≤ 0) : a = b :=
  (F.eq a b).1 (by have := F.neg a b; omega)
theorem grown_sort {α : Type} [Inhabited α] (enc : α → List Value) (k : Nat) (w : World) (g m : Nat) (dk : Array α) (os : Array Obj) : w.grownBy (sortWorldK enc k w g 0 m dk os) (some g) := by
  refine ⟨rfl, rfl, rfl, size_sortWorldK_c enc k w g 0 m dk os, fun i hi hne => ?_⟩
  have hg : g ≠ i := fun e => hne (by rw [e])
  have hs : i < (putRowK enc k (Sort.ahead w m) g 0 dk).heap.size := by rw [size_putRowK]; exact hi
  show (grow (putRowK enc k (Sort.ahead w m) g 0 dk) os).heap[i]? = _
  rw [grow, Array.getElem?_append_left hs]
  show ((w.heap).modify g _)[i]? = _
  rw [Array.getElem?_modify, if_neg hg]
theorem heap_sortK {α : Type} [Inhabited α] {enc : α → List Value} {k : Nat} {w : World} {g n : Nat} {os : Array Obj} {cur : Array Value} {e : TypeId} {fr : Nat × Nat} (d : Array α) (hb : w.heap[g]? = some (.cells cur e fr)) :
    (sortWorldK enc k w g 0 n d os).heap[g]? = some (.cells (putCells id 0 (flatK enc k d) cur) e fr) := by
  have hg : g < w.heap.size := (Array.getElem?_eq_some_iff.1 hb).1
  unfold sortWorldK putRowK
  rw [heap_grow_old _ _ (by simpa using hg)]
  simp [putRow, mapBlock, Sort.ahead, Array.getElem?_modify, hb, onCells]
theorem take_putCellsK (cur F : Array Value) (h : F.size ≤ cur.size) : (putCells id 0 F cur).toList.take F.size = F.toList := by
  apply List.ext_getElem?
  intro j
  by_cases hj : j < F.size
  · rw [List.getElem?_take_of_lt hj, Array.getElem?_toList]
    simp [putCells, hj, show j < cur.size by omega]
  · rw [List.getElem?_take_eq_none (by omega), List.getElem?_eq_none (by simp; omega)]
end Go.Proofs.Ytchpekidnbdpdaa


/- Spans: Compare once more, its world told to the block: what a sort asks of it. -/
namespace Go.Proofs.Ytchpekidnbdpdaa
open Go.RowKit

set_option maxRecDepth 100000 in
set_option maxHeartbeats 2000000 in
theorem spCmpTracesG (h1 l1 h2 l2 : Int) (w : World) :
    Calls Try.prog 58 #[.agg #[.int .u64 h1, .int .u64 l1], .agg #[.int .u64 h2, .int .u64 l2]] w fun e w' => e = .returned (.int .i64 (cmpTr h1 l1 h2 l2)) ∧ Gr w w' := by
  have b1 := (Bk.new w 29 #[.int .u64 h1, .int .u64 l1]).alloc (.cells #[.int .u64 h2, .int .u64 l2] 29)
  have b2 := Bk.new (w.alloc (.cells #[.int .u64 h1, .int .u64 l1] 29)) 29 #[.int .u64 h2, .int .u64 l2]
  rw [World.size_alloc] at b2
  have hb0 : Below w.heap.size w ((w.alloc (.cells #[.int .u64 h1, .int .u64 l1] 29)).alloc (.cells #[.int .u64 h2, .int .u64 l2] 29)) := ((Below.refl _ w).alloc (Nat.le_refl _) _).alloc (by simp) _
  obtain ⟨W, hW⟩ : ∃ W, (w.alloc (.cells #[.int .u64 h1, .int .u64 l1] 29)).alloc (.cells #[.int .u64 h2, .int .u64 l2] 29) = W := ⟨_, rfl⟩
  rw [hW] at b1 b2 hb0
  have HW := Lib.hid hW
  obtain ⟨g, hg⟩ : ∃ g, w.heap.size = g := ⟨_, rfl⟩
  rw [hg] at b1 b2
  have HG := Lib.hid hg
  have k10 : W.cell? ⟨g, 0, none⟩ = some (.int .u64 h1) := b1.cell 0
  have k11 : W.cell? ⟨g, 1, none⟩ = some (.int .u64 l1) := b1.cell 1
  have k20 : W.cell? ⟨g + 1, 0, none⟩ = some (.int .u64 h2) := b2.cell 0
  have k21 : W.cell? ⟨g + 1, 1, none⟩ = some (.int .u64 l2) := b2.cell 1
  have hsz := hb0.size
  obtain ⟨c1, hc1⟩ : ∃ c, cmpI h1 h2 = c := ⟨_, rfl⟩
  obtain ⟨c2, hc2⟩ : ∃ c, cmpI l1 l2 = c := ⟨_, rfl⟩
  have u1 := fun w => cmpU h1 h2 w
  rw [hc1] at u1
  have u2 := fun w => cmpU l1 l2 w
  rw [hc2] at u2
  have hres : cmpTr h1 l1 h2 l2 = orL [c1, c2] := by rw [cmpTr, hc1, hc2]
  obtain ⟨q, hq⟩ : ∃ q, orL [c1, c2] = q := ⟨_, rfl⟩
  rw [hres, hq]
  have HQ := Lib.hid hq
  have HB := Lib.hid hb0
  have bo := (Bk.new W 3 #[.int .i64 c1, .int .i64 c2]).drew
  have hor := cmpOr (l := [c1, c2]) (n := 2) _ rfl (by decide) bo
  rw [hq] at hor
  have HOR := Lib.hid hor
  clear hor hW hg b1 b2 hc1 hc2 hres hq hb0
  go_enter Try.func58, Try.ntmps58
  go_upto_region 1 with fail
  rw [HW.out, HG.out]
  go_region_held3 (fun w' => w'.cell? ⟨g, 0, none⟩ = some (.int .u64 h1) ∧ w'.cell? ⟨g, 1, none⟩ = some (.int .u64 l1) ∧ w'.cell? ⟨g + 1, 0, none⟩ = some (.int .u64 h2) ∧ w'.cell? ⟨g + 1, 1, none⟩ = some (.int .u64 l2))
    (go_keep)
    (first
      | (go_at_call_of 37 (Value.int .u64 h1)
         refine (u1 _).mono ?_
         rintro e w' ⟨rfl, hw⟩
         rw [hw]
         clear hw w')
      | (go_at_call_of 37 (Value.int .u64 l1)
         refine (u2 _).mono ?_
         rintro e w' ⟨rfl, hw⟩
         rw [hw]
         clear hw w')
      | (go_at_call 36
         refine HOR.out.mono ?_
         rintro e w' ⟨rfl, hw⟩
         rw [hw]
         clear hw w')
      | fail)
  all_goals
    go_wp2
    go_ret
    exact ⟨rfl, ⟨below_drewN (HB.out.alloc hsz (.cells #[.int .i64 c1, .int .i64 c2] 3)) 1, by rw [← HW.out]; exact Nat.le_add_right w.drawn 1⟩⟩
set_option maxRecDepth 100000 in
set_option maxHeartbeats 2000000 in
theorem spCmpTagsG (a b : Tg) (w : World) :
    Calls Try.prog 64 #[.agg #[.string a.key, .string a.val], .agg #[.string b.key, .string b.val]] w fun e w' => e = .returned (.int .i64 (cmpTg a b)) ∧ Gr w w' := by
  obtain ⟨h1, l1⟩ := a
  obtain ⟨h2, l2⟩ := b
  simp only
  have b1 := (Bk.new w 80 #[.string h1, .string l1]).alloc (.cells #[.string h2, .string l2] 80)
  have b2 := Bk.new (w.alloc (.cells #[.string h1, .string l1] 80)) 80 #[.string h2, .string l2]
  rw [World.size_alloc] at b2
  have hb0 : Below w.heap.size w ((w.alloc (.cells #[.string h1, .string l1] 80)).alloc (.cells #[.string h2, .string l2] 80)) := ((Below.refl _ w).alloc (Nat.le_refl _) _).alloc (by simp) _
  obtain ⟨W, hW⟩ : ∃ W, (w.alloc (.cells #[.string h1, .string l1] 80)).alloc (.cells #[.string h2, .string l2] 80) = W := ⟨_, rfl⟩
  rw [hW] at b1 b2 hb0
  have HW := Lib.hid hW
  obtain ⟨g, hg⟩ : ∃ g, w.heap.size = g := ⟨_, rfl⟩
  rw [hg] at b1 b2
  have HG := Lib.hid hg
  have k10 : W.cell? ⟨g, 0, none⟩ = some (.string h1) := b1.cell 0
  have k11 : W.cell? ⟨g, 1, none⟩ = some (.string l1) := b1.cell 1
  have k20 : W.cell? ⟨g + 1, 0, none⟩ = some (.string h2) := b2.cell 0
  have k21 : W.cell? ⟨g + 1, 1, none⟩ = some (.string l2) := b2.cell 1
  have hsz := hb0.size
  obtain ⟨c1, hc1⟩ : ∃ c, cmpS h1 h2 = c := ⟨_, rfl⟩
  obtain ⟨c2, hc2⟩ : ∃ c, cmpS l1 l2 = c := ⟨_, rfl⟩
  have u1 := fun w => cmpStr h1 h2 w
  rw [hc1] at u1
  have u2 := fun w => cmpStr l1 l2 w
  rw [hc2] at u2
  have hres : cmpTg ⟨h1, l1⟩ ⟨h2, l2⟩ = orL [c1, c2] := by rw [cmpTg, hc1, hc2]
  obtain ⟨q, hq⟩ : ∃ q, orL [c1, c2] = q := ⟨_, rfl⟩
  rw [hres, hq]
  have HQ := Lib.hid hq
  have HB := Lib.hid hb0
  have bo := (Bk.new W 3 #[.int .i64 c1, .int .i64 c2]).drew
  have hor := cmpOr (l := [c1, c2]) (n := 2) _ rfl (by decide) bo
  rw [hq] at hor
  have HOR := Lib.hid hor
  clear hor hW hg b1 b2 hc1 hc2 hres hq hb0
  go_enter Try.func64, Try.ntmps64
  go_upto_region 1 with fail
  rw [HW.out, HG.out]
  go_region_held3 (fun w' => w'.cell? ⟨g, 0, none⟩ = some (.string h1) ∧ w'.cell? ⟨g, 1, none⟩ = some (.string l1) ∧ w'.cell? ⟨g + 1, 0, none⟩ = some (.string h2) ∧ w'.cell? ⟨g + 1, 1, none⟩ = some (.string l2))
    (go_keep)
    (first
      | (go_at_call_of 60 (Value.string h1)
         refine (u1 _).mono ?_
         rintro e w' ⟨rfl, hw⟩
         rw [hw]
         clear hw w')
      | (go_at_call_of 60 (Value.string l1)
         refine (u2 _).mono ?_
         rintro e w' ⟨rfl, hw⟩
         rw [hw]
         clear hw w')
      | (go_at_call 36
         refine HOR.out.mono ?_
         rintro e w' ⟨rfl, hw⟩
         rw [hw]
         clear hw w')
      | fail)
  all_goals
    go_wp2
    go_ret
    exact ⟨rfl, ⟨below_drewN (HB.out.alloc hsz (.cells #[.int .i64 c1, .int .i64 c2] 3)) 1, by rw [← HW.out]; exact Nat.le_add_right w.drawn 1⟩⟩
set_option maxRecDepth 100000 in
set_option maxHeartbeats 2000000 in
theorem spCmpTLG {A1 A2 : Option Addr} {c1 c2 n m B : Nat} {la lb : List Tg} (w : World) (hf : RbT w B A1 la) (hg : RbT w B A2 lb) (hn : la.length = n) (hm : lb.length = m) (hB : B ≤ w.heap.size) (hnl : n ≤ 9223372036854775807) (hml : m ≤ 9223372036854775807) :
    Calls Try.prog 63 #[.slice A1 n c1, .slice A2 m c2, .func (.func 64) #[] #[]] w fun e w' => e = .returned (.int .i64 (cmpTL la lb)) ∧ Gr w w' := by
  have HN := Lib.hid hn
  have HM := Lib.hid hm
  obtain ⟨q, hq⟩ : ∃ q, cmpTL la lb = q := ⟨_, rfl⟩
  rw [hq]
  have HQ := Lib.hid hq
  clear hn hm hq
  go_enter Try.func63, Try.ntmps63
  go_wp2
  go_loopw [13] (fun iv_ wr => ∃ j : Nat, j ≤ n ∧ j ≤ m ∧ iv_ = .int .i64 j ∧ cmpTL (la.drop j) (lb.drop j) = q ∧ Gr w wr) (fun i _ => n - (intOf i).toNat)
  case atStart => exact ⟨0, by omega, by omega, rfl, HQ.out, Gr.refl _⟩
  case round =>
    obtain ⟨j, hj, hjm, rfl, hd, hG⟩ := hrel
    have hb := hG.b
    have HD := Lib.hid hd
    have hsr := hb.size
    clear hd
    by_cases hlt : j < n
    · have hlt' : (j : Int) < (n : Int) := by omega
      obtain ⟨x, hx⟩ : ∃ x, la[j]? = some x := ⟨_, List.getElem?_eq_getElem (by rw [HN.out]; exact hlt)⟩
      obtain ⟨b1, o1, rfl, hbb1, c11, c12⟩ := RbT.get (Rd.below hf (hb.mono hB)) hx
      by_cases hlm : j < m
      · have hlm' : decide ((m : Int) ≤ (j : Int)) = false := by simp; omega
        have hlm2 : (j : Int) < (m : Int) := by omega
        obtain ⟨y, hy⟩ : ∃ y, lb[j]? = some y := ⟨_, List.getElem?_eq_getElem (by rw [HM.out]; exact hlm)⟩
        obtain ⟨b2, o2, rfl, hbb2, c21, c22⟩ := RbT.get (Rd.below hg (hb.mono hB)) hy
        have hst := cmpTL_step hx hy
        rw [HD.out] at hst
        obtain ⟨cv, hcv⟩ : ∃ cv, cmpTg x y = cv := ⟨_, rfl⟩
        have hct := fun W => spCmpTagsG x y W
        rw [hcv] at hst hct
        have HST := Lib.hid hst
        have HCT := Lib.hid hct
        have d21 : (wr.alloc (.cells #[.string x.key, .string x.val] 80)).cell? ⟨b2, o2 + j * 2, none⟩ = some (.string y.key) := (World.cell?_alloc_lt wr _ ⟨b2, o2 + j * 2, none⟩ (by show b2 < _; omega)).trans c21
        have d22 : (wr.alloc (.cells #[.string x.key, .string x.val] 80)).cell? ⟨b2, o2 + j * 2 + 1, none⟩ = some (.string y.val) := (World.cell?_alloc_lt wr _ ⟨b2, o2 + j * 2 + 1, none⟩ (by show b2 < _; omega)).trans c22
        have hb2 := (hG.alloc (.cells #[.string x.key, .string x.val] 80)).alloc (.cells #[.string y.key, .string y.val] 80)
        have HB2 := Lib.hid hb2
        clear hst hct hcv hb2 hx hy hbb1 hbb2
        by_cases h0 : cv = 0
        · subst h0
          have hd := HST.out
          rw [if_neg (by simp)] at hd
          have HD2 := Lib.hid hd
          clear hd
          go_wp2_with (go_at_call 64; refine (HCT.out _).mono ?_; rintro en w' ⟨rfl, hb3⟩)
          go_roundw
          case rel => exact ⟨j + 1, by omega, by omega, by go_num, HD2.out.symm, HB2.out.trans hb3⟩
          case measure => simp [intOf]; omega
        · have hxb : (cv != 0) = true := by simp [h0]
          have hd := HST.out
          rw [if_pos h0] at hd
          have HD2 := Lib.hid hd
          clear hd
          go_wp2_with (go_at_call 64; refine (HCT.out _).mono ?_; rintro en w' ⟨rfl, hb3⟩)
          go_ret
          exact ⟨by rw [HD2.out]; rfl, HB2.out.trans hb3⟩
      · have hlm' : (m : Int) ≤ (j : Int) := by omega
        have hq1 : q = 1 := by
          have h1 := (List.getElem?_eq_some_iff.1 hx).1
          rw [← HD.out, show lb.drop j = [] from List.drop_eq_nil_of_le (by rw [HM.out]; omega), List.drop_eq_getElem_cons h1, cmpTL]
        have HQ1 := Lib.hid hq1
        clear hq1 hx
        go_wp2
        go_ret
        exact ⟨by rw [HQ1.out]; rfl, hG.alloc _⟩
    · have hlt' : decide ((j : Int) < (n : Int)) = false := by simp; omega
      obtain rfl : j = n := by omega
      have e1 : la.drop j = [] := List.drop_eq_nil_of_le (by rw [HN.out]; omega)
      have hd := HD.out
      rw [e1] at hd
      by_cases hlm : j < m
      · have hlm2 : (j : Int) < (m : Int) := by omega
        have hq1 : q = -1 := by
          have h1 : j < lb.length := by rw [HM.out]; exact hlm
          rw [← hd, List.drop_eq_getElem_cons h1, cmpTL]
        have HQ1 := Lib.hid hq1
        clear hq1 hd e1
        go_wp2
        go_ret
        exact ⟨by rw [HQ1.out]; rfl, hG⟩
      · have hlm2 : decide ((j : Int) < (m : Int)) = false := by simp; omega
        have hq1 : q = 0 := by
          rw [← hd, List.drop_eq_nil_of_le (by rw [HM.out]; omega), cmpTL]
        have HQ1 := Lib.hid hq1
        clear hq1 hd e1
        go_wp2
        go_ret
        exact ⟨by rw [HQ1.out]; rfl, hG⟩
set_option maxRecDepth 100000 in
set_option maxHeartbeats 8000000 in
theorem spCompareG {A1 A2 : Option Addr} {c1 c2 n m B : Nat} (a b : Sp) (w : World) (hf : RbT w B A1 a.tags) (hg : RbT w B A2 b.tags) (hn : a.tags.length = n) (hm : b.tags.length = m) (hB : B ≤ w.heap.size) (hnl : n ≤ 9223372036854775807) (hml : m ≤ 9223372036854775807) :
    Calls Try.prog 38 #[spV a A1 n c1, spV b A2 m c2] w fun e w' => e = .returned (.int .i64 (spCmp a b)) ∧ Gr w w' := by
  have hb0 : Below w.heap.size w ((w.alloc (.cells (spC a A1 n c1) 32)).alloc (.cells (spC b A2 m c2) 32)) := ((Below.refl _ w).alloc (Nat.le_refl _) _).alloc (by simp) _
  have hff := Rd.below hf (hb0.mono hB)
  have hgg := Rd.below hg (hb0.mono hB)
  have bk1 := (Bk.new w 32 (spC a A1 n c1)).alloc (.cells (spC b A2 m c2) 32)
  have bk2 := Bk.new (w.alloc (.cells (spC a A1 n c1) 32)) 32 (spC b A2 m c2)
  rw [World.size_alloc] at bk2
  have hs1 : ((w.alloc (.cells (spC a A1 n c1) 32)).alloc (.cells (spC b A2 m c2) 32)).heap.size = w.heap.size + 2 := by simp
  obtain ⟨W, hW⟩ : ∃ W, (w.alloc (.cells (spC a A1 n c1) 32)).alloc (.cells (spC b A2 m c2) 32) = W := ⟨_, rfl⟩
  rw [hW] at hb0 hff hgg bk1 bk2 hs1
  have HW := Lib.hid hW
  obtain ⟨g, hgq⟩ : ∃ g, w.heap.size = g := ⟨_, rfl⟩
  rw [hgq] at bk1 bk2
  have HG := Lib.hid hgq
  have bd1 := bk1.drew
  have bd2 := bk2.drew
  have fd := Rd.drew hff
  have gd := Rd.drew hgg
  have hbd : Below w.heap.size w W.drew := below_drewN hb0 1
  have hBW : B ≤ W.drew.heap.size := by show B ≤ W.heap.size; omega
  obtain ⟨fa, hfa⟩ : ∃ fa : Int, (if a.fails = true then 1 else 0) = fa := ⟨_, rfl⟩
  obtain ⟨fb, hfb⟩ : ∃ fb : Int, (if b.fails = true then 1 else 0) = fb := ⟨_, rfl⟩
  have hT1 := fun W => spTruth W a.fails
  rw [hfa] at hT1
  have hT2 := fun W => spTruth W b.fails
  rw [hfb] at hT2
  have hres : spCmp a b = orL [cmpTr a.hi a.lo b.hi b.lo, cmpI a.id b.id, cmpI a.parent b.parent, cmpI a.start b.start, cmpI a.length b.length, cmpS a.service b.service, cmpS a.name b.name, cmpI a.kind b.kind, cmpI fa fb, cmpTL a.tags b.tags] := by rw [spCmp, hfa, hfb]
  rw [hres]
  clear hres hfa hfb
  have HDR : Hid (∀ {w' : World}, W.drew.drawn ≤ w'.drawn → w.drawn ≤ w'.drawn) := fun h => by
    rw [← hW] at h
    exact Nat.le_trans (Nat.le_add_right w.drawn 1) h
  have HN := Lib.hid hn
  have HM := Lib.hid hm
  clear hW hgq hf hg hn hm hb0 hff hgg bk1 bk2 hs1
  go_enter Try.func38, Try.ntmps38
  go_upto_region 1 with fail
  rw [HW.out, HG.out]
  go_region_held3 (fun w' => (w'.cell? ⟨g, 0, none⟩ = some (.int .u64 a.hi) ∧ w'.cell? ⟨g, 1, none⟩ = some (.int .u64 a.lo) ∧ w'.cell? ⟨g, 2, none⟩ = some (.int .u64 a.id) ∧ w'.cell? ⟨g, 3, none⟩ = some (.int .u64 a.parent) ∧ w'.cell? ⟨g, 4, none⟩ = some (.string a.service) ∧ w'.cell? ⟨g, 5, none⟩ = some (.string a.name) ∧ w'.cell? ⟨g, 6, none⟩ = some (.int .i64 a.kind) ∧ w'.cell? ⟨g, 7, none⟩ = some (.int .i64 a.start) ∧ w'.cell? ⟨g, 8, none⟩ = some (.int .i64 a.length) ∧ w'.cell? ⟨g, 9, none⟩ = some (.bool a.fails) ∧ w'.cell? ⟨g, 10, none⟩ = some (.slice A1 n c1)) ∧ (w'.cell? ⟨g + 1, 0, none⟩ = some (.int .u64 b.hi) ∧ w'.cell? ⟨g + 1, 1, none⟩ = some (.int .u64 b.lo) ∧ w'.cell? ⟨g + 1, 2, none⟩ = some (.int .u64 b.id) ∧ w'.cell? ⟨g + 1, 3, none⟩ = some (.int .u64 b.parent) ∧ w'.cell? ⟨g + 1, 4, none⟩ = some (.string b.service) ∧ w'.cell? ⟨g + 1, 5, none⟩ = some (.string b.name) ∧ w'.cell? ⟨g + 1, 6, none⟩ = some (.int .i64 b.kind) ∧ w'.cell? ⟨g + 1, 7, none⟩ = some (.int .i64 b.start) ∧ w'.cell? ⟨g + 1, 8, none⟩ = some (.int .i64 b.length) ∧ w'.cell? ⟨g + 1, 9, none⟩ = some (.bool b.fails) ∧ w'.cell? ⟨g + 1, 10, none⟩ = some (.slice A2 m c2)))
    (exact ⟨cells11 (by assumption), cells11 (by assumption)⟩)
    (first
      | (go_at_call 58
         refine (spCmpTracesG a.hi a.lo b.hi b.lo W.drew).mono ?_
         rintro e w5 ⟨rfl, hG5⟩
         have hb5 := hG5.b
         have be1 := bd1.below hb5 bd1.lt
         have be2 := bd2.below hb5 bd2.lt
         have fe := Rd.below fd (hb5.mono hBW)
         have ge := Rd.below gd (hb5.mono hBW)
         have hbe := hbd.trans (hb5.mono hbd.size)
         have hBe := Nat.le_trans hBW hb5.size)
      | (go_at_call 37
         refine (cmpU _ _ _).mono ?_
         rintro e w' ⟨rfl, hw⟩
         rw [hw]
         clear hw w')
      | (go_at_call 59
         refine (cmpJ _ _ _).mono ?_
         rintro e w' ⟨rfl, hw⟩
         rw [hw]
         clear hw w')
      | (go_at_call 60
         refine (cmpStr _ _ _).mono ?_
         rintro e w' ⟨rfl, hw⟩
         rw [hw]
         clear hw w')
      | (go_at_call 61
         refine (cmpN' _ _ _).mono ?_
         rintro e w' ⟨rfl, hw⟩
         rw [hw]
         clear hw w')
      | (go_at_call_of 62 (Value.bool a.fails)
         refine (hT1 _).mono ?_
         rintro e w' ⟨rfl, hw⟩
         rw [hw]
         clear hw w')
      | (go_at_call_of 62 (Value.bool b.fails)
         refine (hT2 _).mono ?_
         rintro e w' ⟨rfl, hw⟩
         rw [hw]
         clear hw w')
      | (go_at_call 63
         refine (spCmpTLG w5 fe ge HN.out HM.out hBe hnl hml).mono ?_
         rintro e w6 ⟨rfl, hG6⟩
         have hb6 := hG6.b
         have bf1 := be1.below hb6 be1.lt
         have bf2 := be2.below hb6 be2.lt
         have hbf := hbe.trans (hb6.mono hbe.size)
         have hor := cmpOr (l := [cmpTr a.hi a.lo b.hi b.lo, cmpI a.id b.id, cmpI a.parent b.parent, cmpI a.start b.start, cmpI a.length b.length, cmpS a.service b.service, cmpS a.name b.name, cmpI a.kind b.kind, cmpI fa fb, cmpTL a.tags b.tags]) (n := 10) _ rfl (by decide) (Bk.new w6 3 _)
         have hbz := hbf.alloc hbf.size (.cells #[.int .i64 (cmpTr a.hi a.lo b.hi b.lo), .int .i64 (cmpI a.id b.id), .int .i64 (cmpI a.parent b.parent), .int .i64 (cmpI a.start b.start), .int .i64 (cmpI a.length b.length), .int .i64 (cmpS a.service b.service), .int .i64 (cmpS a.name b.name), .int .i64 (cmpI a.kind b.kind), .int .i64 (cmpI fa fb), .int .i64 (cmpTL a.tags b.tags)] 3)
         have bg1 := bf1.alloc (.cells #[.int .i64 (cmpTr a.hi a.lo b.hi b.lo), .int .i64 (cmpI a.id b.id), .int .i64 (cmpI a.parent b.parent), .int .i64 (cmpI a.start b.start), .int .i64 (cmpI a.length b.length), .int .i64 (cmpS a.service b.service), .int .i64 (cmpS a.name b.name), .int .i64 (cmpI a.kind b.kind), .int .i64 (cmpI fa fb), .int .i64 (cmpTL a.tags b.tags)] 3)
         have bg2 := bf2.alloc (.cells #[.int .i64 (cmpTr a.hi a.lo b.hi b.lo), .int .i64 (cmpI a.id b.id), .int .i64 (cmpI a.parent b.parent), .int .i64 (cmpI a.start b.start), .int .i64 (cmpI a.length b.length), .int .i64 (cmpS a.service b.service), .int .i64 (cmpS a.name b.name), .int .i64 (cmpI a.kind b.kind), .int .i64 (cmpI fa fb), .int .i64 (cmpTL a.tags b.tags)] 3))
      | (go_at_call 36
         refine hor.mono ?_
         rintro e w' ⟨rfl, hw⟩
         rw [hw]
         clear hw w')
      | fail)
  all_goals
    go_wp2
    go_ret
    exact ⟨rfl, ⟨hbz, HDR.out (by have := hG5.d; have := hG6.d; exact Nat.le_trans hG5.d hG6.d)⟩⟩
end Go.Proofs.Ytchpekidnbdpdaa

