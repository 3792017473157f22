/- Texts of the proof of DepsTraceSaid, joined: DeN DeM Sort GrS DeI DeJ SpL DeO. -/
import Derived.Test.YthaiplhjekkooaaJDepsTrace3
import Derived.Test.YthaiplhjekkooaaJDepsTrace1
import Derived.Test.YthaiplhjekkooaaJDepsTrace4
import Derived.Shelf.SlGeneric
import Derived.Shelf.SlSortCmp.WholeK
import Derived.Ground.SlsfProg
import Derived.Test.YthaiplhjekkooaaProg
import Derived.Sort.Grow
import Derived.Shelf.SlSortCmp.NoneTotal
import Derived.Test.YthaiplhjekkooaaJDepsTrace2
/- deps: is a span ahead of all time? slices.ContainsFunc with Edges' closure. -/
namespace Go.Proofs.Ythaiplhjekkooaa
open Go.RowKit
theorem loadAd_shutN (a : Addr) : loadVar 45 a = loadK 45 a := rfl
attribute [local go_sem ↓] loadAd_shutN

def negA (e : AE) : Bool := decide (e.a.s.start < 0)
/-- The first that p tells, or -1. -/
def idxA (p : AE → Bool) (l : List AE) : Int := match l.findIdx? p with | some i => (i : Int) | none => -1
theorem idxA_hit {p : AE → Bool} {l : List AE} {j : Nat} {x : AE} (h : (l.take j).any p = false) (hx : l[j]? = some x) (hp : p x = true) : idxA p l = j := by
  have hj := (List.getElem?_eq_some_iff.1 hx).1
  have : l.findIdx? p = some j := by
    rw [List.findIdx?_eq_some_iff_getElem]
    refine ⟨hj, by rw [(List.getElem?_eq_some_iff.1 hx).2]; exact hp, fun i hi => ?_⟩
    have h1 := List.any_eq_false.1 h (l[i]'(by omega)) (List.mem_of_getElem? (i := i) (by rw [List.getElem?_take, if_pos hi]; exact List.getElem?_eq_getElem _))
    simpa using h1
  rw [idxA, this]
theorem idxA_none {p : AE → Bool} {l : List AE} (h : l.any p = false) : idxA p l = -1 := by
  have : l.findIdx? p = none := by
    rw [List.findIdx?_eq_none_iff]
    intro x hx
    have := List.any_eq_false.1 h x hx
    simpa using this
  rw [idxA, this]
theorem idxA_any (p : AE → Bool) (l : List AE) : decide (0 ≤ idxA p l) = l.any p := by
  by_cases h : l.any p = true
  · rw [h, decide_eq_true_iff, idxA]
    cases hf : l.findIdx? p with
    | none =>
      rw [List.findIdx?_eq_none_iff] at hf
      obtain ⟨x, hx, hp⟩ := List.any_eq_true.1 h
      rw [hf x hx] at hp
      cases hp
    | some i => simp only; omega
  · have h : l.any p = false := by simpa using h
    rw [h, idxA_none h]
    rfl
theorem deNeg (e : AE) (w : World) : Calls Try.prog 33 #[adV e.a e.A e.n e.c] w fun en w' => en = .returned (.bool (negA e)) ∧ Below w.heap.size w w' := by
  have hb0 : Below w.heap.size w (w.alloc (.cells (adC e.a e.A e.n e.c) 45)) := (Below.refl _ w).alloc (Nat.le_refl _) _
  have HB := Lib.hid hb0
  clear hb0
  go_enter Try.func33, Try.ntmps33
  go_wp2_with fail
  go_ret
  exact ⟨rfl, HB.out⟩
set_option maxHeartbeats 1000000 in
theorem deIndexNeg {A : Option Addr} {c n B : Nat} {l : List AE} (w : World) (hf : RbA w B A l) (hn : l.length = n) (hB : B ≤ w.heap.size) (hnl : n ≤ 9223372036854775807) :
    Calls Try.prog 49 #[.slice A n c, .func (.func 33) #[] #[]] w fun e w' => e = .returned (.int .i64 (idxA negA l)) ∧ Below w.heap.size w w' := by
  have HN := Lib.hid hn
  obtain ⟨q, hq⟩ : ∃ q, idxA negA l = q := ⟨_, rfl⟩
  rw [hq]
  have HQ := Lib.hid hq
  have HF := Lib.hid hf
  clear hn hq hf
  go_enter Try.func49, Try.ntmps49
  go_wp2_with fail
  go_loopw [8] (fun iv_ wr => ∃ j : Nat, j ≤ n ∧ iv_ = .int .i64 j ∧ Hid ((l.take j).any negA = false) ∧ Below w.heap.size w wr) (fun i _ => n - (intOf i).toNat)
  case atStart => exact ⟨0, by omega, rfl, Lib.hid rfl, Below.refl _ _⟩
  case round =>
    obtain ⟨j, hj, rfl, HA, hb⟩ := hrel
    by_cases hlt : j < n
    · have hlt' : (j : Int) < (n : Int) := by omega
      obtain ⟨x, hx⟩ : ∃ x, l[j]? = some x := ⟨_, List.getElem?_eq_getElem (by rw [HN.out]; exact hlt)⟩
      obtain ⟨b, o, rfl, hbb, h1, h2⟩ := (HF.out.below (hb.mono hB)).get hx
      have hld := loadK_ae h1
      have HX := Lib.hid hx
      have hcl := deNeg x wr
      obtain ⟨t, ht⟩ : ∃ t, negA x = t := ⟨_, rfl⟩
      rw [ht] at hcl
      have HT := Lib.hid ht
      clear hx h1 h2 ht
      cases t with
      | true =>
        go_wp2_with (go_at_call 33; refine hcl.mono ?_; rintro e w' ⟨rfl, hb'⟩)
        go_ret
        have hqt : q = (j : Int) := by
          rw [← HQ.out]
          exact idxA_hit HA.out HX.out HT.out
        exact ⟨by rw [hqt]; rfl, hb.trans (hb'.mono hb.size)⟩
      | false =>
        go_wp2_with (go_at_call 33; refine hcl.mono ?_; rintro e w' ⟨rfl, hb'⟩)
        exact ⟨⟨j + 1, by omega, by go_num, Lib.hid (by rw [take_snoc HX.out, List.any_append, HA.out]; simp [HT.out]), hb.trans (hb'.mono hb.size)⟩, by simp only [intOf]; omega⟩
    · have hlt' : decide ((j : Int) < (n : Int)) = false := by simp; omega
      go_wp2_with fail
      go_ret
      have : q = -1 := by
        rw [← HQ.out]
        have h1 := HA.out
        rw [List.take_of_length_le (by rw [HN.out]; omega)] at h1
        exact idxA_none h1
      exact ⟨by rw [this]; rfl, hb⟩
theorem deHasNeg {A : Option Addr} {c n B : Nat} {l : List AE} (w : World) (hf : RbA w B A l) (hn : l.length = n) (hB : B ≤ w.heap.size) (hnl : n ≤ 9223372036854775807) :
    Calls Try.prog 32 #[.slice A n c, .func (.func 33) #[] #[]] w fun e w' => e = .returned (.bool (l.any negA)) ∧ Below w.heap.size w w' := by
  have hc := deIndexNeg (c := c) w hf hn hB hnl
  have ha := idxA_any negA l
  obtain ⟨q, hq⟩ : ∃ q, idxA negA l = q := ⟨_, rfl⟩
  rw [hq] at hc ha
  rw [← ha]
  have HC := Lib.hid hc
  clear hc hq ha
  go_enter Try.func32, Try.ntmps32
  go_wp2_with (go_at_call 49; refine HC.out.mono ?_; rintro e w' ⟨rfl, hb'⟩)
  go_ret
  exact ⟨rfl, hb'⟩
end Go.Proofs.Ythaiplhjekkooaa

/- deps: what Edges of the code does, plain. -/
namespace Go.Proofs.Ythaiplhjekkooaa
open Go.RowKit

abbrev idV (n : Nat) : Value := .int .u64 n
abbrev spvE (e : AE) : Value := spV e.a.s e.A e.n e.c
/-- The spans by their IDs. -/
def atTo (l : List AE) : List (Nat × AE) := l.foldl (fun M e => mgPut e.a.s.id e M) []
theorem atTo_snoc (l : List AE) (e : AE) : atTo (l ++ [e]) = mgPut e.a.s.id e (atTo l) := by simp [atTo]
/-- A span's call. -/
def callC (size : Int) (M : List (Nat × AE)) (x : AE) : Option Ed :=
  match mgGet x.a.up M with
  | some y => if y.a.s.service ≠ x.a.s.service then some ⟨(bktOf x.a.s.start size).1, y.a.s.service, x.a.s.service, 1⟩ else none
  | none => none
def callsC (size : Int) (l : List AE) : List Ed := l.filterMap (callC size (atTo l))
theorem callC_one {size : Int} {M : List (Nat × AE)} {x : AE} {e : Ed} (h : callC size M x = some e) : e.n = 1 := by
  unfold callC at h
  split at h
  · split at h
    · injection h with h; rw [← h]
    · cases h
  · cases h
theorem mgAll_few {xs : List Ed} : ∀ {M : List (Ek × Nat)} {c : Nat}, (∀ x ∈ xs, x.n = 1) → (∀ p ∈ M, p.2 ≤ c) → (M.map (·.1)).Nodup → ∀ p ∈ mgAll xs M, p.2 ≤ c + xs.length := by
  induction xs with
  | nil => intro M c _ h _ p hp; exact h p hp
  | cons x xs ih =>
    intro M c h1 h2 hn p hp
    have h3 : ∀ p ∈ addK (edK x) x.n M, p.2 ≤ c + 1 := fun p hp => by
      rcases (mgPut_mem hn p).1 hp with ⟨h4, _⟩ | rfl
      · have := h2 p h4; omega
      · show min ((mgGet (edK x) M).getD 0) 4611686018427387905 + min x.n 4611686018427387905 ≤ c + 1
        have h5 := h1 x (List.mem_cons_self ..)
        have h6 : (mgGet (edK x) M).getD 0 ≤ c := by
          cases hg : mgGet (edK x) M with
          | none => exact Nat.zero_le _
          | some v => exact h2 _ (mgGet_mem hg)
        omega
    have := ih (fun y hy => h1 y (List.mem_cons_of_mem _ hy)) h3 (mgPut_nodup hn) p hp
    simp only [List.length_cons]
    omega
/-- What Edges of the code hands back. -/
def EdgC (l : List AE) (size : Int) (w : World) (e : Ending) (w' : World) : Prop :=
  Below w.heap.size w w' ∧
  ((size < 1 ∨ (atTo l).length ≠ l.length ∨ l.any negA = true) ∧ e = .returned (.tuple #[.slice none 0 0, .int .i64 2]) ∨
   ¬ (size < 1 ∨ (atTo l).length ≠ l.length ∨ l.any negA = true) ∧
    (spErr (l.map (·.a.s)) ≠ 0 ∧ e = .returned (.tuple #[.slice none 0 0, .int .i64 (spErr (l.map (·.a.s)))]) ∨
     spErr (l.map (·.a.s)) = 0 ∧ ∃ A c n out, out.Perm ((mgAll (callsC size l) []).map mkEd) ∧ SortEd out ∧ out.length = n ∧ e = .returned (.tuple #[.slice A n c, .int .i64 0]) ∧ w'.ownsRow w.heap.size 47 4 (.slice A n c) n (eds out)))
end Go.Proofs.Ythaiplhjekkooaa

/-
  DERIVED: THE SHELF's CONTRACTS AT THIS DUMP, IN PLAIN WORDS (tools/lay-plain.mjs out of 'TrySort.lean', which tools/lay-shelf.mjs wrote): THE SAME DECLARATIONS UNDER THE SAME NAMES: 'import', 'namespace', 'open', 'def', 'theorem' AND NOTHING ELSE: no command of the shelf's: FOR A HAND-IN. Each laying: the table of numbers ('.._ren') and one theorem, a field a fact of the dump's own or the kernel's comparison; each contract: ONE APPLICATION.
-/
namespace Go.Proofs
open Go.Shelf
def Try.sortEd_ren : Go.Shelf.Ren := ⟨fun | 6 => 52 | 15 => 66 | 14 => 65 | 28 => 82 | 29 => 83 | 20 => 74 | 21 => 75 | 22 => 76 | 23 => 77 | 24 => 78 | 25 => 79 | 26 => 80 | 27 => 81 | 46 => 98 | 47 => 99 | 48 => 100 | 49 => 101 | 50 => 102 | 57 => 106 | n => n, fun | 22 => 25 | 24 => 47 | 25 => 79 | 3 => 3 | 39 => 105 | 0 => 0 | 53 => 121 | 55 => 29 | 4 => 4 | 46 => 114 | 45 => 113 | 50 => 118 | 5 => 5 | 9 => 9 | 66 => 132 | 70 => 136 | 76 => 140 | 77 => 141 | n => n, fun | n => n⟩
theorem Try.sortEd : Go.Proofs.SlLaysF0.n6 Try.prog Try.sortEd_ren := {
  mixed := by kernel_rfl
  f6 := ⟨Try.f52.name, by decide, Try.func52.trans (congrArg some (by kernel_rfl))⟩
  f14 := ⟨Try.f65.name, by decide, Try.func65.trans (congrArg some (by kernel_rfl))⟩
  f15 := Try.func66.trans (congrArg some (by kernel_rfl))
  f20 := ⟨Try.f74.name, by decide, Try.func74.trans (congrArg some (by kernel_rfl))⟩
  f21 := ⟨Try.f75.name, by decide, Try.func75.trans (congrArg some (by kernel_rfl))⟩
  f22 := ⟨Try.f76.name, by decide, Try.func76.trans (congrArg some (by kernel_rfl))⟩
  f23 := ⟨Try.f77.name, by decide, Try.func77.trans (congrArg some (by kernel_rfl))⟩
  f24 := ⟨Try.f78.name, by decide, Try.func78.trans (congrArg some (by kernel_rfl))⟩
  f25 := ⟨Try.f79.name, by decide, Try.func79.trans (congrArg some (by kernel_rfl))⟩
  f26 := ⟨Try.f80.name, by decide, Try.func80.trans (congrArg some (by kernel_rfl))⟩
  f27 := ⟨Try.f81.name, by decide, Try.func81.trans (congrArg some (by kernel_rfl))⟩
  f28 := Try.func82.trans (congrArg some (by kernel_rfl))
  f29 := Try.func83.trans (congrArg some (by kernel_rfl))
  f46 := ⟨Try.f98.name, by decide, Try.func98.trans (congrArg some (by kernel_rfl))⟩
  f47 := Try.func99.trans (congrArg some (by kernel_rfl))
  f48 := Try.func100.trans (congrArg some (by kernel_rfl))
  f49 := ⟨Try.f101.name, by decide, Try.func101.trans (congrArg some (by kernel_rfl))⟩
  f50 := ⟨Try.f102.name, by decide, Try.func102.trans (congrArg some (by kernel_rfl))⟩
  f57 := ⟨Try.f106.name, by decide, Try.func106.trans (congrArg some (by kernel_rfl))⟩
  t0 := Try.underlying0
  a0 := Try.isAgg0
  z0 := Try.sizeOf0
  v0 := Try.zeroValue0
  t3 := Try.underlying3
  a3 := Try.isAgg3
  z3 := Try.sizeOf3
  v3 := Try.zeroValue3
  t4 := Try.underlying4
  a4 := Try.isAgg4
  z4 := Try.sizeOf4
  v4 := Try.zeroValue4
  t5 := Try.underlying5
  a5 := Try.isAgg5
  z5 := Try.sizeOf5
  v5 := Try.zeroValue5
  t9 := Try.underlying9
  a9 := Try.isAgg9
  z9 := Try.sizeOf9
  v9 := Try.zeroValue9
  t22 := Try.underlying25
  a22 := Try.isAgg25
  z22 := Try.sizeOf25
  v22 := Try.zeroValue25
  t25 := Try.underlying79
  a25 := Try.isAgg79
  z25 := Try.sizeOf79
  v25 := Try.zeroValue79
  t39 := Try.underlying105
  a39 := Try.isAgg105
  z39 := Try.sizeOf105
  v39 := Try.zeroValue105
  t45 := Try.underlying113
  a45 := Try.isAgg113
  z45 := Try.sizeOf113
  v45 := Try.zeroValue113
  t46 := Try.underlying114
  a46 := Try.isAgg114
  z46 := Try.sizeOf114
  v46 := Try.zeroValue114
  t50 := Try.underlying118
  a50 := Try.isAgg118
  z50 := Try.sizeOf118
  v50 := Try.zeroValue118
  t53 := Try.underlying121
  a53 := Try.isAgg121
  z53 := Try.sizeOf121
  v53 := Try.zeroValue121
  t55 := Try.underlying29
  a55 := Try.isAgg29
  z55 := Try.sizeOf29
  v55 := Try.zeroValue29
  t66 := Try.underlying132
  a66 := Try.isAgg132
  z66 := Try.sizeOf132
  v66 := Try.zeroValue132
  t70 := Try.underlying136
  a70 := Try.isAgg136
  z70 := Try.sizeOf136
  v70 := Try.zeroValue136
  t76 := Try.underlying140
  a76 := Try.isAgg140
  z76 := Try.sizeOf140
  v76 := Try.zeroValue140
  t77 := Try.underlying141
  a77 := Try.isAgg141
  z77 := Try.sizeOf141
  v77 := Try.zeroValue141 }
end Go.Proofs

/- Draws and new blocks, nothing else; what a sort wants of lists of structs, whatever they are. -/
namespace Go.Proofs.Ythaiplhjekkooaa
open Go.RowKit Go.Shelf Go.Sort

/-- Draws and new blocks, nothing else. -/
structure Gr (w w' : World) : Prop where
  b : Below w.heap.size w w'
  d : w.drawn ≤ w'.drawn
theorem Gr.refl (w : World) : Gr w w := ⟨Below.refl _ _, Nat.le_refl _⟩
theorem Gr.trans {a b c : World} (h : Gr a b) (k : Gr b c) : Gr a c := ⟨h.b.trans (k.b.mono h.b.size), Nat.le_trans h.d k.d⟩
theorem Gr.alloc {a b : World} (h : Gr a b) (o : Obj) : Gr a (b.alloc o) := ⟨h.b.alloc h.b.size o, h.d⟩
theorem Gr.grow {w w' : World} (h : Gr w w') : ∃ q os, w' = Go.Sort.grow (w.drewN q) os := by
  obtain ⟨h1, h2⟩ := h
  obtain ⟨hp, tp, dr, os, out⟩ := w
  obtain ⟨hp', tp', dr', os', out'⟩ := w'
  obtain ⟨e1, e2, e3, e4, e5⟩ := h1
  simp only at e1 e2 e3 e4 e5 h2
  subst e1 e2 e3
  refine ⟨dr' - dr, hp'.extract hp.size hp'.size, ?_⟩
  have hd : dr + (dr' - dr) = dr' := by omega
  have hh : hp ++ hp'.extract hp.size hp'.size = hp' := by
    apply Array.ext_getElem?
    intro i
    by_cases hi : i < hp.size
    · rw [Array.getElem?_append_left hi, e5 i hi]
    · rw [Array.getElem?_append_right (by omega), Array.getElem?_extract]
      by_cases hi2 : i < hp'.size
      · rw [if_pos (by omega), show hp.size + (i - hp.size) = i from by omega]
      · rw [if_neg (by omega), Array.getElem?_eq_none (by omega)]
  simp only [Go.Sort.grow, World.drewN, hd, hh]
theorem Cmp.le {α : Type} {f : α → α → Int} (F : Cmp f) {a b c : α} (h1 : f a b ≤ 0) (h2 : f b c ≤ 0) : f a c ≤ 0 := by
  by_cases e1 : f a b = 0
  · rw [(F.eq a b).1 e1]
    exact h2
  · by_cases e2 : f b c = 0
    · rw [← (F.eq b c).1 e2]
      exact h1
    · have r1 := F.rng a b
      have r2 := F.rng b c
      have := F.tr a b c (by omega) (by omega)
      omega
theorem Cmp.anti {α : Type} {f : α → α → Int} (F : Cmp f) {a b : α} (h1 : f a b ≤ 0) (h2 : f b a ≤ 0) : a = b :=
  (F.eq a b).1 (by have := F.neg a b; omega)
theorem grown_sort {α : Type} [Inhabited α] (enc : α → List Value) (k : Nat) (w : World) (g m : Nat) (dk : Array α) (os : Array Obj) : w.grownBy (sortWorldK enc k w g 0 m dk os) (some g) := by
  refine ⟨rfl, rfl, rfl, size_sortWorldK_c enc k w g 0 m dk os, fun i hi hne => ?_⟩
  have hg : g ≠ i := fun e => hne (by rw [e])
  have hs : i < (putRowK enc k (Sort.ahead w m) g 0 dk).heap.size := by rw [size_putRowK]; exact hi
  show (grow (putRowK enc k (Sort.ahead w m) g 0 dk) os).heap[i]? = _
  rw [grow, Array.getElem?_append_left hs]
  show ((w.heap).modify g _)[i]? = _
  rw [Array.getElem?_modify, if_neg hg]
theorem heap_sortK {α : Type} [Inhabited α] {enc : α → List Value} {k : Nat} {w : World} {g n : Nat} {os : Array Obj} {cur : Array Value} {e : TypeId} {fr : Nat × Nat} (d : Array α) (hb : w.heap[g]? = some (.cells cur e fr)) :
    (sortWorldK enc k w g 0 n d os).heap[g]? = some (.cells (putCells id 0 (flatK enc k d) cur) e fr) := by
  have hg : g < w.heap.size := (Array.getElem?_eq_some_iff.1 hb).1
  unfold sortWorldK putRowK
  rw [heap_grow_old _ _ (by simpa using hg)]
  simp [putRow, mapBlock, Sort.ahead, Array.getElem?_modify, hb, onCells]
theorem take_putCellsK (cur F : Array Value) (h : F.size ≤ cur.size) : (putCells id 0 F cur).toList.take F.size = F.toList := by
  apply List.ext_getElem?
  intro j
  by_cases hj : j < F.size
  · rw [List.getElem?_take_of_lt hj, Array.getElem?_toList]
    simp [putCells, hj, show j < cur.size by omega]
  · rw [List.getElem?_take_eq_none (by omega), List.getElem?_eq_none (by simp; omega)]
end Go.Proofs.Ythaiplhjekkooaa

/- slices.SortFunc of edges. -/
namespace Go.Proofs.Ythaiplhjekkooaa
open Go.RowKit Go.Shelf Go.Sort

theorem swo_ed : SWO (ltOf fun x y : Ed => ekCmp (edK x) (edK y)) where
  irrefl x := by
    have := (ekCmp_cmp.eq (edK x) (edK x)).2 rfl
    simp [ltOf, this]
  trans x y z h1 h2 := by
    simp only [ltOf, decide_eq_true_eq] at *
    have r1 := ekCmp_cmp.rng (edK x) (edK y)
    have r2 := ekCmp_cmp.rng (edK y) (edK z)
    have := ekCmp_cmp.tr (edK x) (edK y) (edK z) (by omega) (by omega)
    omega
  ntrans x y z h1 h2 := by
    simp only [ltOf, decide_eq_false_iff_not] at *
    have n1 := ekCmp_cmp.neg (edK x) (edK y)
    have n2 := ekCmp_cmp.neg (edK y) (edK z)
    have n3 := ekCmp_cmp.neg (edK x) (edK z)
    have := ekCmp_cmp.le (a := edK z) (b := edK y) (c := edK x) (by omega) (by omega)
    omega
theorem flat_eds [Inhabited Ed] (d : Array Ed) : (flatK edC 4 d).toList = eds d.toList := by
  apply List.ext_getElem?
  intro j
  by_cases hj : j < d.size * 4
  · have hj1 : j < (flatK edC 4 d).size := by rw [size_flatK]; exact hj
    have hq : j / 4 < d.size := by omega
    have hm : j % 4 < 4 := Nat.mod_lt _ (by omega)
    have h1 := flatR_get (f := edC) edC_length (l := d.toList) (i := j / 4) (x := d[j / 4]) (by simp [hq]) (j % 4) hm
    rw [show j / 4 * 4 + j % 4 = j from by omega] at h1
    rw [h1, Array.getElem?_toList, Array.getElem?_eq_getElem hj1]
    have h2 := get_flatK edC 4 d j hj
    rw [getElem!_pos _ j hj1, getElem!_pos d (j / 4) hq] at h2
    rw [h2, List.getElem!_eq_getElem?_getD, List.getElem?_eq_getElem (by rw [edC_length]; exact hm)]
    rfl
  · rw [List.getElem?_eq_none (by rw [Array.length_toList, size_flatK]; omega), List.getElem?_eq_none (by rw [eds_length]; simp; omega)]
theorem sizeOf_ed (w : World) : (Go.sizeOf 47).run Try.prog w = .ok 4 w := by
  have h : (Try.prog.info? 47).map (·.size) = some 4 := by kernel_rfl
  cases hq : Try.prog.info? 47 with
  | none => simp [hq] at h
  | some i =>
    have hs : i.size = 4 := by simpa [hq] using h
    simp [sizeOf, typeInfo, Sem.run_bind, hq, hs]
theorem isAgg_ed (w : World) : (isAgg 47).run Try.prog w = .ok true w := by
  unfold isAgg
  rw [Sem.run_bind, run_underlying Try.underlying47 w]
  rfl
/-- slices.SortFunc of edges by compare. -/
def SortEdPost (w : World) (base : Nat) (v : Value) (n : Nat) (l : List Ed) (e : Ending) (w' : World) : Prop :=
  e = .returned (.tuple #[]) ∧ ∃ l', l'.Perm l ∧ SortEd l' ∧ w'.ownsRow base 47 4 v n (eds l') ∧ w.grownBy w' v.ownBlock
set_option maxRecDepth 100000 in
theorem sortEds {base n cap : Nat} {A : Option Addr} {l : List Ed} (w : World) (h : w.ownsRow base 47 4 (.slice A n cap) n (eds l)) (hl : l.length = n) (hn : n < 4611686018427387904) :
    Calls Try.prog 52 #[.slice A n cap, .func (.func 42) #[] #[]] w (SortEdPost w base (.slice A n cap) n l) := by
  rcases h.2 with ⟨h1, h2⟩ | ⟨g, cap', cur, hv, hbase, hb, hnc, hcm, hcs, htk⟩
  · injection h1 with e1 _ e3
    subst e1 e3 h2
    refine (AnyF.slices_SortFunc_none Try.sortEd none 0 _ w).mono ?_
    rintro e w' ⟨rfl, rfl⟩
    have hl : l = [] := List.eq_nil_of_length_eq_zero hl
    subst hl
    exact ⟨rfl, [], List.Perm.refl _, List.Pairwise.nil, h, World.grownBy.refl _ _⟩
  · injection hv with e1 _ e3
    subst e1 e3
    have hgw : g < w.heap.size := (Array.getElem?_eq_some_iff.1 hb).1
    letI : Inhabited Ed := ⟨⟨0, .empty, .empty, 0⟩⟩
    obtain ⟨d, hd⟩ : ∃ d : Array Ed, d.toList = l := ⟨l.toArray, by simp⟩
    have hds : d.size = n := by
      have := congrArg List.length hd
      simpa [hl] using this
    have hfl := flat_eds d
    rw [hd] at hfl
    have hH : HoldsK edC 4 w g 0 d := by
      intro j hj
      have hj1 : (eds l)[j]? = some ((flatK edC 4 d)[j]!) := by
        rw [← hfl, Array.getElem?_toList, Array.getElem?_eq_getElem hj, getElem!_pos _ j hj]
      have h1 := h.cells (g := g) rfl j _ hj1
      rw [Addr.add_lit] at h1
      exact ⟨h1, by simp [World.frozen?, hb]⟩
    have hcmp : CmpLays Try.prog 42 #[] edC 4 (fun x y : Ed => ekCmp (edK x) (edK y)) g 0 d.size w := by
      intro m os dk hs x y
      refine Calls.mono (deCompare x y _) ?_
      rintro e w' ⟨he, hG1, hG2⟩
      exact ⟨he, Gr.grow ⟨hG1, hG2⟩⟩
    have hrun := AnyQ.slices_SortFunc Try.sortEd 4 isAgg_ed sizeOf_ed edC edC_length (fun x => by
      have := edC_one x
      exact fun v hv => this v hv) (fun x y : Ed => ekCmp (edK x) (edK y)) swo_ed 42 #[] g 0 cap d w (fun _ _ => rfl) hcmp hH hgw (by omega)
    rw [hds] at hrun
    refine Calls.mono hrun ?_
    rintro e w' ⟨rfl, d', q, os, hp, hst, rfl⟩
    have hgr := grown_sort edC 4 w g q d' os
    have hs' : d'.size = n := hp.1.trans hds
    have hperm : (d'.toList).Perm d.toList := by
      have := hp.2.2
      rw [show d'.extract 0 n = d' by rw [← hs']; simp, show d.extract 0 n = d by rw [← hds]; simp] at this
      exact this
    have hfl' := flat_eds d'
    refine ⟨rfl, d'.toList, by rw [← hd]; exact hperm, ?_, ?_, hgr⟩
    · rw [SortEd, List.pairwise_iff_getElem]
      intro i j hi hj hij
      simp only [Array.length_toList] at hi hj
      have h1 := hst i j (Nat.zero_le _) hij (by omega)
      rw [getElem!_pos d' i hi, getElem!_pos d' j hj] at h1
      simp only [ltOf, decide_eq_false_iff_not] at h1
      simp only [Array.getElem_toList]
      have h2 := ekCmp_cmp.neg (edK d'[i]) (edK d'[j])
      omega
    · refine ⟨by rw [eds_length]; simp [hs'], .inr ⟨g, cap, _, rfl, hbase, heap_sortK d' hb, hnc, hcm, by simp [putCells, hcs], ?_⟩⟩
      rw [← hfl', show n * 4 = (flatK edC 4 d').size by rw [size_flatK, hs']]
      exact take_putCellsK cur _ (by rw [size_flatK, hs', hcs]; exact Nat.mul_le_mul_right 4 hnc)
end Go.Proofs.Ythaiplhjekkooaa

/- deps: list. -/
namespace Go.Proofs.Ythaiplhjekkooaa
open Go.RowKit Go.MapKept
theorem loadEk_shutJ (a : Addr) : loadVar 71 a = loadK 71 a := rfl
attribute [local go_sem ↓] loadEk_shutJ

def sliceN : Value → Nat
  | .slice _ n _ => n
  | _ => 0
theorem rgOut_length {κ ν : Type} {kv : κ → Value} {vv : ν → Value} {w : World} {b r : Nat} {L : List (κ × ν)} {seen : Array Nat} (h : Rg kv vv w b r L seen) : (rgOut L seen).length = seen.size := by
  have : ∀ s : List Nat, (∀ i ∈ s, i < L.length) → (s.filterMap fun i => L[i]?).length = s.length := by
    intro s
    induction s with
    | nil => intro _; rfl
    | cons i s ih =>
      intro hs
      have hi := hs i (List.mem_cons_self ..)
      rw [List.filterMap_cons, List.getElem?_eq_getElem hi]
      simp only [List.length_cons]
      rw [ih (fun j hj => hs j (List.mem_cons_of_mem _ hj))]
  rw [rgOut, this _ h.lt]
  simp
def ListPost (w : World) (L : List (Ek × Nat)) (e : Ending) (w' : World) : Prop :=
  (∃ p ∈ L, 4611686018427387904 < p.2) ∧ e = .returned (.tuple #[.slice none 0 0, .bool false]) ∧ Below w.heap.size w w' ∨
  (∀ p ∈ L, p.2 ≤ 4611686018427387904) ∧ ∃ A c n l, l.Perm (L.map mkEd) ∧ SortEd l ∧ l.length = n ∧ e = .returned (.tuple #[.slice A n c, .bool true]) ∧ w'.ownsRow w.heap.size 47 4 (.slice A n c) n (eds l) ∧ Below w.heap.size w w'
theorem own_baseJ {w : World} {b b' size n : Nat} {e : TypeId} {v : Value} {xs : List Value} (h : w.ownsRow b e size v n xs) (hb : b' ≤ b) : w.ownsRow b' e size v n xs :=
  ⟨h.1, h.2.imp id fun ⟨g, cap, cur, h1, h2, h3⟩ => ⟨g, cap, cur, h1, Nat.le_trans hb h2, h3⟩⟩
theorem below_grownJ {w w' : World} {k : Option Nat} {B : Nat} (hg : w.grownBy w' k) (hB : B ≤ w.heap.size) (hk : ∀ j, k = some j → B ≤ j) : Below B w w' :=
  ⟨hg.os, hg.tape, hg.output, hg.size, fun i hi => hg.block i (Nat.lt_of_lt_of_le hi hB) (fun e => by have := hk i e.symm; omega)⟩
set_option maxRecDepth 100000 in
set_option maxHeartbeats 4000000 in
theorem deList {b : Nat} {L : List (Ek × Nat)} (w : World) (h : Mg ekV uvV w b L) (hL : L.length ≤ 100000) :
    Calls Try.prog 36 #[.map (some b)] w (ListPost w L) := by
  have hrg := run_mgRange (P := Try.prog) Try.underlying67 h
  have rg0 := Rg.start h
  have hb0 : Below w.heap.size w (w.alloc (.mapIter (some b) L.length #[] L.length)) := (Below.refl _ w).alloc (Nat.le_refl _) _
  have own0 : (w.alloc (.mapIter (some b) L.length #[] L.length)).ownsRow (w.heap.size + 1) 47 4 (.slice none 0 0) 0 [] := World.ownsRow_nil _ _ _ _
  obtain ⟨w1, hw1⟩ : ∃ w1, w.alloc (.mapIter (some b) L.length #[] L.length) = w1 := ⟨_, rfl⟩
  obtain ⟨r, hr⟩ : ∃ r, w.heap.size = r := ⟨_, rfl⟩
  rw [hw1] at hrg rg0 hb0 own0
  rw [hr] at hrg rg0 hb0 own0
  have hbr : b < r := by rw [← hr]; exact h.lt
  have HP := Lib.hid (show ListPost w L = ListPost w L from rfl)
  have HR := Lib.hid hr
  clear hw1 hr h
  go_enter Try.func36, Try.ntmps36
  go_wp2_with fail
  go_loopw [4] (fun out_ wr => ∃ (seen : Array Nat) (m c' : Nat) (A' : Option Addr), out_ = .slice A' m c' ∧ m ≤ L.length ∧ seen.size = m ∧ Rg ekV uvV wr b r L seen ∧ (∀ p ∈ rgOut L seen, p.2 ≤ 4611686018427387904) ∧ wr.ownsRow (r + 1) 47 4 (.slice A' m c') m (eds ((rgOut L seen).map mkEd)) ∧ Below r w wr) (fun out_ _ => L.length - sliceN out_)
  case atStart => exact ⟨#[], 0, 0, none, rfl, Nat.zero_le _, rfl, rg0, (fun p hp => by cases hp), own0, hb0⟩
  case round =>
    obtain ⟨seen, m, c', A', rfl, hm, hsm, hrgw, hall, hown, hbw⟩ := hrel
    rcases hrgw.next (P := Try.prog) 0 with ⟨hperm, hrun⟩ | ⟨k, v, seen', w2, hkv, hrun, hrg2, hout, hsz, hszl, hgr, hhs, hent⟩
    · have hnx : ∀ ty, (Instr.next (.pointer (some ⟨r, 0, none⟩)) false ty).run Try.prog wr = _ := fun _ => hrun
      clear hrun
      have hlen : ((rgOut L seen).map mkEd).length = m := by rw [List.length_map, rgOut_length hrgw, hsm]
      have hso := sortEds wr hown hlen (by omega)
      have hpm := hperm.map mkEd
      have hal : ∀ p ∈ L, p.2 ≤ 4611686018427387904 := fun p hp => hall p (hperm.mem_iff.2 hp)
      have HPM := Lib.hid hpm
      have HAL := Lib.hid hal
      have HBW := Lib.hid hbw
      have HLT := Lib.hid (World.ownsRow.lt hown)
      have HLE := Lib.hid hlen
      clear hpm hal hperm hall hown hbw hlen hrgw
      go_wp2_with fail
      refine hso.mono ?_
      rintro en w3 ⟨rfl, l', hp', hs', hown', hgr'⟩
      go_wp2_with fail
      go_ret2
      refine .inr ⟨HAL.out, A', c', m, l', hp'.trans HPM.out, hs', by rw [hp'.length_eq, HLE.out], rfl, own_baseJ (by rw [HR.out]; exact hown') (Nat.le_succ _), ?_⟩
      rw [HR.out]
      exact HBW.out.trans (below_grownJ hgr' (Nat.le_trans (by have := HR.out; omega) HBW.out.size) (fun j hj => by have := (HLT.out j hj).1; omega))
    · have hnx : ∀ ty, (Instr.next (.pointer (some ⟨r, 0, none⟩)) false ty).run Try.prog wr = _ := fun _ => hrun
      have hen := hent w2 hrg2
      clear hrun
      by_cases hv : 4611686018427387904 < v
      · have hv' : (4611686018427387904 : Int) < (v : Int) := by omega
        have hb2 : Below r w w2 := hbw.trans (below_grownJ hgr (Nat.le_trans (by have := HR.out; omega) hbw.size) (fun j hj => by have := Option.some.inj hj; omega))
        have HB2 := Lib.hid (hb2.alloc (by have := hb2.size; have := HR.out; omega) (.cells (ekA k) 71))
        have HKV := Lib.hid hkv
        clear hb2 hkv hbw hgr hall hown hrgw hrg2 hent hhs
        go_wp2_with fail
        go_ret2
        exact .inl ⟨⟨(k, v), HKV.out, hv⟩, rfl, by rw [HR.out]; exact HB2.out⟩
      · have hv' : decide ((4611686018427387904 : Int) < (v : Int)) = false := by simp; omega
        have hb2 : Below r w w2 := hbw.trans (below_grownJ hgr (Nat.le_trans (by have := HR.out; omega) hbw.size) (fun j hj => by have := Option.some.inj hj; omega))
        have hb3 := hb2.alloc (by have := hb2.size; have := HR.out; omega) (.cells (ekA k) 71)
        have own2 := World.ownsRow.kept hown hgr (.inr fun e => by have := ((World.ownsRow.lt hown) r e).1; omega)
        have own3 := (own2.alloc (.cells (ekA k) 71)).alloc (.cells (edA (mkEd (k, v))) 47)
        have rg3 := hrg2.bS ((Below.refl w2.heap.size w2).alloc (Nat.le_refl _) (.cells (ekA k) 71))
        have hb4 := hb3.alloc (by have := hb3.size; have := HR.out; omega) (.cells (edA (mkEd (k, v))) 47)
        obtain ⟨W3, hW3⟩ : ∃ W3, w2.alloc (.cells (ekA k) 71) = W3 := ⟨_, rfl⟩
        have hW3s : W3.heap.size = w2.heap.size + 1 := by rw [← hW3]; simp
        rw [hW3] at own3 rg3 hb4
        have rg4 := rg3.bS ((Below.refl W3.heap.size W3).alloc (Nat.le_refl _) (.cells (edA (mkEd (k, v))) 47))
        have hrr := hrg2.ltr
        have hrd := Rd.lit W3 (edA (mkEd (k, v))) 47
        rw [hW3s] at hrd
        have HAL2 := Lib.hid (show ∀ p ∈ rgOut L seen', p.2 ≤ 4611686018427387904 from fun p hp => by
          rw [hout] at hp
          rcases List.mem_append.1 hp with hp | hp
          · exact hall p hp
          · simp at hp
            subst hp
            exact Nat.le_of_not_lt hv)
        have HOUT := Lib.hid (show (rgOut L seen').map mkEd = (rgOut L seen).map mkEd ++ [mkEd (k, v)] by rw [hout, List.map_append]; rfl)
        have HW3 := Lib.hid hW3
        have HB4 := Lib.hid hb4
        have HLT := Lib.hid (World.ownsRow.lt own3)
        have HRG := Lib.hid rg4
        have HO3 := Lib.hid own3
        have HRD := Lib.hid hrd
        clear hhs hW3 hb2 hb3 hb4 own2 rg3 rg4 hall hout hown hrgw hent hgr hbw own3 hrd hrg2 hkv
        go_wp2_with (at_builtin; go_loud (rw [HW3.out]; refine wpList_appD _ rfl (.tmp 16) (.tmp 25) rfl (r + 1) _ m ((rgOut L seen).map mkEd) rfl HO3.out _ (some ⟨w2.heap.size + 1, 0, none⟩) 1 1 [mkEd (k, v)] rfl rfl HRD.out (by omega) (by simp; omega) ?_))
        intro A5 c5 w5 hap _
        go_wp2_with fail
        have hb5 : Below r w w5 := HB4.out.trans (hap.below (by simp; omega) (fun j hj => by have := (HLT.out j hj).1; omega))
        exact ⟨⟨seen', m + 1, c5, A5, rfl, by omega, by omega, HRG.out.grown hap.grown (fun e => by have := (HLT.out b e.symm).1; omega) (fun e => by have := (HLT.out r e.symm).1; omega), HAL2.out, by rw [HOUT.out]; exact hap.own, hb5⟩, by simp only [sliceN]; omega⟩
end Go.Proofs.Ythaiplhjekkooaa

/- Spans: Check of a span whose head is not right; Check of any span. -/
namespace Go.Proofs.Ythaiplhjekkooaa
open Go.RowKit

set_option maxRecDepth 100000 in
set_option maxHeartbeats 8000000 in
/-- Check of a span that is not too long and whose head is not right. -/
theorem spCheck0 {A : Option Addr} {c n B : Nat} (s : Sp) (w : World) (hf : RbT w B A s.tags) (hn : s.tags.length = n) (hB : B ≤ w.heap.size) (hnl : n ≤ 9223372036854775807) (hlong : longB s = false) (hhead : headB s = false) :
    Calls Try.prog 34 #[spV s A n c] w fun e w' => e = .returned (.int .i64 2) ∧ Below w.heap.size w w' := by
  have hb0 : Below w.heap.size w (w.alloc (.cells (spC s A n c) 43)) := (Below.refl _ w).alloc (Nat.le_refl _) _
  have hf1 := Rd.alloc hf hB (.cells (spC s A n c) 43)
  have bk := Bk.new w 43 (spC s A n c)
  have hs1 : (w.alloc (.cells (spC s A n c) 43)).heap.size = w.heap.size + 1 := by simp
  obtain ⟨w1, hw1⟩ : ∃ w1, w.alloc (.cells (spC s A n c) 43) = w1 := ⟨_, rfl⟩
  rw [hw1] at hb0 hf1 bk hs1
  have HW := Lib.hid hw1
  have hc := spLong (c := c) s w1 hf1 hn (by omega) hnl
  rw [hlong] at hc
  have HC := Lib.hid hc
  have HN := Lib.hid hn
  clear hw1 hc hn hlong
  have hcase : (s.hi = 0 ∧ s.lo = 0) ∨ ((s.hi ≠ 0 ∨ s.lo ≠ 0) ∧ (s.id = 0 ∨ s.id ≠ 0 ∧ (nameB s.service = false ∨ nameB s.service = true ∧ (nameB s.name = false ∨ nameB s.name = true ∧ (decide (0 ≤ s.kind) = false ∨ 0 ≤ s.kind ∧ (decide (s.kind ≤ 5) = false ∨ s.kind ≤ 5 ∧
      (decide (0 ≤ s.start) = false ∨ 0 ≤ s.start ∧ (decide (0 ≤ s.length) = false ∨ 0 ≤ s.length ∧ (decide (s.start ≤ 4611686018427387903) = false ∨ s.start ≤ 4611686018427387903 ∧ decide (s.length ≤ 4611686018427387903 - s.start) = false))))))))) := by
    by_cases a0 : s.hi = 0 ∧ s.lo = 0
    · exact .inl a0
    refine .inr ⟨by omega, ?_⟩
    by_cases a1 : s.id = 0
    · exact .inl a1
    refine .inr ⟨a1, ?_⟩
    cases a2 : nameB s.service with
    | false => exact .inl rfl
    | true =>
    refine .inr ⟨rfl, ?_⟩
    cases a3 : nameB s.name with
    | false => exact .inl rfl
    | true =>
    refine .inr ⟨rfl, ?_⟩
    by_cases a4 : 0 ≤ s.kind
    case neg => exact .inl (by simpa using a4)
    refine .inr ⟨a4, ?_⟩
    by_cases a5 : s.kind ≤ 5
    case neg => exact .inl (by simpa using a5)
    refine .inr ⟨a5, ?_⟩
    by_cases a6 : 0 ≤ s.start
    case neg => exact .inl (by simpa using a6)
    refine .inr ⟨a6, ?_⟩
    by_cases a7 : 0 ≤ s.length
    case neg => exact .inl (by simpa using a7)
    refine .inr ⟨a7, ?_⟩
    by_cases a8 : s.start ≤ 4611686018427387903
    case neg => exact .inl (by simpa using a8)
    refine .inr ⟨a8, ?_⟩
    by_cases a9 : s.length ≤ 4611686018427387903 - s.start
    case neg => simpa using a9
    have : headB s = true := by
      simp only [headB, a2, a3, Bool.and_eq_true, Bool.or_eq_true, decide_eq_true_eq, ne_eq]
      exact ⟨⟨⟨⟨⟨⟨⟨⟨⟨by omega, a1⟩, trivial⟩, trivial⟩, a4⟩, a5⟩, a6⟩, a7⟩, a8⟩, a9⟩
    rw [hhead] at this
    cases this
  have HCASE := Lib.hid hcase
  clear hcase hhead
  go_enter Try.func34, Try.ntmps34
  go_wp2_with fail
  rw [HW.out]
  refine HC.out.mono ?_
  rintro e w2 ⟨rfl, hb2⟩
  have hs2 := hb2.size
  have hb02 := hb0.trans (hb2.mono (by omega))
  have hf2 := (Rd.below hf1 (hb2.mono (by omega))).more (show B ≤ w2.heap.size by omega)
  have bk2 := bk.below hb2 (by omega)
  obtain ⟨g, hg⟩ : ∃ g, w.heap.size = g := ⟨_, rfl⟩
  rw [hg] at bk2 ⊢
  have k0 : w2.cell? ⟨g, 0, none⟩ = some (.int .u64 s.hi) := bk2.cell 0
  have k1 : w2.cell? ⟨g, 1, none⟩ = some (.int .u64 s.lo) := bk2.cell 1
  have k2 : w2.cell? ⟨g, 2, none⟩ = some (.int .u64 s.id) := bk2.cell 2
  have k4 : w2.cell? ⟨g, 4, none⟩ = some (.string s.service) := bk2.cell 4
  have k5 : w2.cell? ⟨g, 5, none⟩ = some (.string s.name) := bk2.cell 5
  have k6 : w2.cell? ⟨g, 6, none⟩ = some (.int .i64 s.kind) := bk2.cell 6
  have k7 : w2.cell? ⟨g, 7, none⟩ = some (.int .i64 s.start) := bk2.cell 7
  have k8 : w2.cell? ⟨g, 8, none⟩ = some (.int .i64 s.length) := bk2.cell 8
  have k10 : w2.cell? ⟨g, 10, none⟩ = some (.slice A n c) := bk2.cell 10
  clear bk hf1 hb0 HW
  have HHS := Lib.hid hs2
  have HH1 := Lib.hid hs1
  have HHB := Lib.hid hB
  have HHG := Lib.hid hg
  have HB02 := Lib.hid hb02
  have HF2 := Lib.hid hf2
  have HBK := Lib.hid bk2
  clear hs2 hs1 hB hg hb02 hf2 bk2 hf hb2
  have hcase := HCASE.out
  clear HCASE
  rcases hcase with ⟨a0, a0'⟩ | ⟨a0, a1 | ⟨a1, a2 | ⟨a2, a3 | ⟨a3, a4 | ⟨a4, a5 | ⟨a5, a6 | ⟨a6, a7 | ⟨a7, a8 | ⟨a8, a9⟩⟩⟩⟩⟩⟩⟩⟩⟩
  all_goals first
    | (have d1 : ((s.id : Int) != 0) = true := by rw [bne_iff_ne]; omega)
    | (have d1 : ((s.id : Int) != 0) = false := by rw [a1]; rfl)
    | skip
  all_goals go_wp2_with (first
    | (go_at_call 51; refine (spName _ _).mono ?_; rintro e w' ⟨rfl, hw⟩; rw [hw]; clear hw w'; first | rw [a2] | rw [a3]))
  all_goals
    go_loopw [3, 63] (fun fv iv_ wr => ∃ j : Nat, j ≤ n ∧ iv_ = .int .i64 j ∧ fv = .bool false ∧ Below w2.heap.size w2 wr) (fun _ i _ => n - (intOf i).toNat)
    case atStart => exact ⟨0, by omega, rfl, rfl, Below.refl _ _⟩
    case round =>
      obtain ⟨j, hj, rfl, rfl, hb⟩ := hrel
      have hgl : g < w2.heap.size := by have := HHG.out; have := HHS.out; have := HH1.out; omega
      by_cases hlt : j < n
      · have hlt' : (j : Int) < (n : Int) := by omega
        obtain ⟨x, hx⟩ : ∃ x, s.tags[j]? = some x := ⟨_, List.getElem?_eq_getElem (by rw [HN.out]; exact hlt)⟩
        have hRb : Rd wr w2.heap.size A (tgs s.tags) := (Rd.more HF2.out (Nat.le_refl _)).below hb
        obtain ⟨b, o, rfl, hbb, c1, c2⟩ := RbT.get hRb hx
        have k10' : wr.cell? ⟨g, 10, none⟩ = some (.slice (some ⟨b, o, none⟩) n c) := (hb.cell (p := ⟨g, 10, none⟩) hgl).trans k10
        have HX := Lib.hid hx
        clear hx
        go_wp2_with fail
        have hbW := hb.alloc hb.size (.cells #[.string x.key, .string x.val] 90)
        obtain ⟨W, hW⟩ : ∃ W, wr.alloc (.cells #[.string x.key, .string x.val] 90) = W := ⟨_, rfl⟩
        rw [hW] at hbW ⊢
        have HBW := Lib.hid hbW
        clear hW hbW hRb hb hgl c1 c2 k10'
        go_quiet (fail)
        go_wp2
        go_roundw
        case rel => exact ⟨j + 1, by omega, by go_num, rfl, below_drewN HBW.out _⟩
        case measure => simp [intOf]; omega
      · have hlt' : decide ((j : Int) < (n : Int)) = false := by simp; omega
        go_wp2
        go_ret
        exact ⟨rfl, HB02.out.trans (hb.mono (by have := HHS.out; have := HH1.out; omega))⟩

set_option maxHeartbeats 400000 in
/-- Check of any span. -/
theorem spCheck {A : Option Addr} {c n B : Nat} (s : Sp) (w : World) (hf : RbT w B A s.tags) (hn : s.tags.length = n) (hB : B ≤ w.heap.size) (hnl : n ≤ 9223372036854775807) :
    Calls Try.prog 34 #[spV s A n c] w fun e w' => e = .returned (.int .i64 (spChk s)) ∧ Below w.heap.size w w' := by
  cases hl : longB s with
  | true =>
    have hr : spChk s = 3 := by rw [spChk, if_pos hl]
    rw [hr]
    have hf1 := Rd.alloc hf hB (.cells (spC s A n c) 43)
    have hb0 : Below w.heap.size w (w.alloc (.cells (spC s A n c) 43)) := (Below.refl _ w).alloc (Nat.le_refl _) _
    have hc := spLong (c := c) s _ hf1 hn (by simp; omega) hnl
    rw [hl] at hc
    have HC := Lib.hid hc
    clear hc hl
    go_enter Try.func34, Try.ntmps34
    go_wp2_with fail
    refine HC.out.mono ?_
    rintro e w2 ⟨rfl, hb2⟩
    go_wp2
    go_ret
    exact ⟨rfl, hb0.trans (hb2.mono (by simp))⟩
  | false =>
    cases hh : headB s with
    | false =>
      have hr : spChk s = 2 := by rw [spChk, hl, hh]; rfl
      rw [hr]
      exact spCheck0 s w hf hn hB hnl hl hh
    | true =>
      have hr : spChk s = if tagsOk s.tags n = true then 0 else 2 := by rw [spChk, hl, hh, hn]; rfl
      rw [hr]
      exact spCheck1 s w hf hn hB hnl hl hh
end Go.Proofs.Ythaiplhjekkooaa

/- deps: Edges. -/
namespace Go.Proofs.Ythaiplhjekkooaa
open Go.RowKit Go.MapKept
theorem loadSp_shutO (a : Addr) : loadVar 43 a = loadK 43 a := rfl
theorem loadAd_shutO (a : Addr) : loadVar 45 a = loadK 45 a := rfl
attribute [local go_sem ↓] loadSp_shutO loadAd_shutO
set_option maxRecDepth 100000 in
theorem loadK_adSpB {w : World} {g : Nat} {e : AE} (h : Bk w g 45 (adC e.a e.A e.n e.c)) : (loadK 43 ⟨g, 0, none⟩).run Try.prog w = .ok (spvE e) w :=
  run_loadVar_cells w _ _ ⟨g, 0, none⟩ (spC e.a.s e.A e.n e.c).toList Try.underlying43 rfl (by rfl) (fun j v hv => by
    have hj : j < 11 := (List.getElem?_eq_some_iff.1 hv).1
    rw [Addr.add_lit, Nat.zero_add, h.cell j, ← hv]
    have : j = 0 ∨ j = 1 ∨ j = 2 ∨ j = 3 ∨ j = 4 ∨ j = 5 ∨ j = 6 ∨ j = 7 ∨ j = 8 ∨ j = 9 ∨ j = 10 := by omega
    rcases this with rfl | rfl | rfl | rfl | rfl | rfl | rfl | rfl | rfl | rfl | rfl <;> rfl)
theorem idRun : KeyRun Try.prog 29 idV := intRun Try.underlying29
set_option maxRecDepth 100000 in
set_option maxHeartbeats 8000000 in
theorem deEdges {A : Option Addr} {n c B : Nat} (l : List AE) (size : Int) (w : World) (h : RbA w B A l) (hn : l.length = n) (hB : B ≤ w.heap.size) (hnl : n ≤ 200) (hs0 : -9223372036854775808 ≤ size) (hs1 : size ≤ 9223372036854775807)
    (hst : ∀ e ∈ l, e.a.s.start ≤ 9223372036854775807 ∧ -9223372036854775808 ≤ e.a.s.start) :
    Calls Try.prog 10 #[.slice A n c, .int .i64 size] w (EdgC l size w) := by
  have hb0 : Below w.heap.size w (w.alloc (.map #[] 0)) := (Below.refl _ w).alloc (Nat.le_refl _) _
  have m0 := Mg.new (kv := idV) (vv := spvE) w
  obtain ⟨w1, hw1⟩ : ∃ w1, w.alloc (.map #[] 0) = w1 := ⟨_, rfl⟩
  obtain ⟨b, hb⟩ : ∃ b, w.heap.size = b := ⟨_, rfl⟩
  rw [hw1] at hb0 m0
  rw [hb] at m0
  have HP := Lib.hid (show EdgC l size w = EdgC l size w from rfl)
  have HW := Lib.hid hw1
  have HG := Lib.hid hb
  have HN := Lib.hid hn
  have HST := Lib.hid hst
  have HH := Lib.hid h
  have HM0 := Lib.hid m0
  have HB0 := Lib.hid hb0
  clear hw1 hb hn hst h m0 hb0
  have hmm := @run_makeMap Try.prog
  go_enter Try.func10, Try.ntmps10
  go_wp2_with fail
  rw [HW.out, HG.out]
  go_loopw [24] (fun i_ wr => ∃ i : Nat, i ≤ n ∧ i_ = .int .i64 i ∧ Hid (Mg idV spvE wr b (atTo (l.take i))) ∧ Hid (Below w.heap.size w wr)) (fun i_ _ => n - (intOf i_).toNat)
  case atStart => exact ⟨0, by omega, rfl, HM0, HB0⟩
  case round =>
    obtain ⟨i, hi, rfl, HM, HB⟩ := hrel
    by_cases hlt : i < n
    · have hlt' : (i : Int) < (n : Int) := by omega
      obtain ⟨x, hx⟩ : ∃ x, l[i]? = some x := ⟨_, List.getElem?_eq_getElem (by rw [HN.out]; exact hlt)⟩
      obtain ⟨ob, oo, eA, hbb, hc, hok⟩ := (HH.out.below (HB.out.mono hB)).get hx
      subst eA
      have hld := loadK_ae hc
      have HX := Lib.hid hx
      have bk := Bk.new wr 45 (adC x.a x.A x.n x.c)
      have hsp := loadK_adSpB bk
      have HM2 := Lib.hid (HM.out.alloc (.cells (adC x.a x.A x.n x.c) 45))
      have HB2 := Lib.hid (HB.out.alloc HB.out.size (.cells (adC x.a x.A x.n x.c) 45))
      clear hx hc hok bk
      go_wp2_with (first
        | (refine wpList_mgPut _ rfl (.tmp 28) (.tmp 31) (.tmp 33) 63 rfl idRun Try.underlying63 b _ rfl HM2.out x.a.s.id x rfl rfl ?_
           rintro w3 hm3 hg3 hs3)
        | fail)
      exact ⟨⟨i + 1, by omega, by go_num, Lib.hid (by rw [take_snoc HX.out, atTo_snoc]; exact hm3), Lib.hid (HB2.out.trans (below_grownJ hg3 HB2.out.size (fun j hj => by have h1 := Option.some.inj hj; have h2 := HG.out; omega)))⟩, by simp only [intOf]; omega⟩
    · have hlt' : decide ((i : Int) < (n : Int)) = false := by simp; omega
      obtain rfl : i = n := by omega
      have hm := HM.out
      rw [List.take_of_length_le (by rw [HN.out]; omega)] at hm
      obtain ⟨M, hMM⟩ : ∃ M, atTo l = M := ⟨_, rfl⟩
      rw [hMM] at hm
      have HMM := Lib.hid hMM
      have hlen := run_mgLen (P := Try.prog) Try.underlying63 hm
      obtain ⟨q, hq⟩ : ∃ q, M.length = q := ⟨_, rfl⟩
      rw [hq] at hlen
      have HQ := Lib.hid hq
      have hlenF : Hid (∀ W, Mg idV spvE W b M → ∀ ty, (Builtin.len_ #[63] ty #[.map (some b)]).run Try.prog W = .ok (.int .i64 q) W) := Lib.hid fun W hW ty => by rw [← HQ.out]; exact run_mgLen Try.underlying63 hW ty
      have HMg := Lib.hid hm
      clear hMM hq HM hm hlt'
      by_cases hz : size < 1
      · have hz' : decide (size < 1) = true := by simp [hz]
        go_wp2_with fail
        go_ret2
        exact ⟨HB.out, .inl ⟨.inl hz, rfl⟩⟩
      have hz' : decide (size < 1) = false := by simp; omega
      by_cases hqn : q = i
      · have hqn' : ((q : Int) != (i : Int)) = false := by simp; omega
        have hneg := deHasNeg (c := c) wr (HH.out.below (HB.out.mono hB)) HN.out (Nat.le_trans hB HB.out.size) (by omega)
        obtain ⟨ng, hng⟩ : ∃ ng, l.any negA = ng := ⟨_, rfl⟩
        rw [hng] at hneg
        have HNG := Lib.hid hng
        clear hng
        cases ng with
        | true =>
          go_wp2_with (go_at_call 32; refine hneg.mono ?_; rintro en w4 ⟨rfl, hb4⟩)
          go_ret2
          exact ⟨HB.out.trans (hb4.mono HB.out.size), .inl ⟨.inr (.inr HNG.out), rfl⟩⟩
        | false =>
          have HNB := Lib.hid (show ¬ (size < 1 ∨ (atTo l).length ≠ l.length ∨ l.any negA = true) by
            rw [HMM.out, HQ.out, HN.out, HNG.out]
            rintro (h1 | h1 | h1)
            · exact hz h1
            · exact h1 hqn
            · cases h1)
          go_wp2_with (go_at_call 32; refine hneg.mono ?_; rintro en w4 ⟨rfl, hb4⟩)
          have HB4 := Lib.hid (HB.out.trans (hb4.mono HB.out.size))
          have HM4 := Lib.hid (HMg.out.bS hb4)
          clear hlen hneg hb4 HMg HB hqn' hqn hlenF
          go_loopw [50] (fun i_ wr2 => ∃ j : Nat, j ≤ i ∧ i_ = .int .i64 j ∧ Hid (spErr (l.map (·.a.s)) = spErr ((l.map (·.a.s)).drop j)) ∧ Hid (Mg idV spvE wr2 b M) ∧ Hid (Below w.heap.size w wr2)) (fun i_ _ => i - (intOf i_).toNat)
          case atStart => exact ⟨0, by omega, rfl, Lib.hid rfl, HM4, HB4⟩
          case round =>
            obtain ⟨j, hj, rfl, HS, HM, HB⟩ := hrel
            by_cases hlt : j < i
            · have hlt' : (j : Int) < (i : Int) := by omega
              obtain ⟨x, hx⟩ : ∃ x, l[j]? = some x := ⟨_, List.getElem?_eq_getElem (by rw [HN.out]; exact hlt)⟩
              obtain ⟨ob, oo, eA, hbb, hc, hok⟩ := (HH.out.below (HB.out.mono hB)).get hx
              subst eA
              have hld := loadK_ae hc
              have hgx : (l.map (·.a.s))[j]? = some x.a.s := by simp [hx]
              have hds := spErr_dropD hgx
              rw [← HS.out] at hds
              have bk := Bk.new wr 45 (adC x.a x.A x.n x.c)
              have hsp := loadK_adSpB bk
              have hbA := (Below.refl wr.heap.size wr).alloc (Nat.le_refl _) (.cells (adC x.a x.A x.n x.c) 45)
              have HM2 := Lib.hid (HM.out.alloc (.cells (adC x.a x.A x.n x.c) 45))
              have HB2 := Lib.hid (HB.out.alloc HB.out.size (.cells (adC x.a x.A x.n x.c) 45))
              have cc := spCheck (c := x.c) x.a.s (wr.alloc (.cells (adC x.a x.A x.n x.c) 45)) (hok.below (hbA.mono (Nat.le_trans hB HB.out.size))).rd hok.len (Nat.le_trans hB HB2.out.size) hok.max
              obtain ⟨ck, hck⟩ : ∃ ck, spChk x.a.s = ck := ⟨_, rfl⟩
              rw [hck] at cc hds
              have HDS := Lib.hid hds
              clear hds hck hx hgx hok hc HS bk hbA HM HB
              go_wp2_with fail
              refine cc.mono ?_
              rintro en w5 ⟨rfl, hb5⟩
              have HB5 := Lib.hid (HB2.out.trans (hb5.mono HB2.out.size))
              have HM5 := Lib.hid (HM2.out.bS hb5)
              clear hb5
              by_cases h0 : ck = 0
              · subst h0
                go_wp2_with fail
                exact ⟨⟨j + 1, by omega, by go_num, Lib.hid (by rw [HDS.out]; simp), HM5, HB5⟩, by simp only [intOf]; omega⟩
              · have h0' : ((ck : Int) != 0) = true := by simp; omega
                have hse : spErr (l.map (·.a.s)) = ck := by rw [HDS.out, if_pos h0]
                go_wp2_with fail
                go_ret2
                exact ⟨HB5.out, .inr ⟨HNB.out, .inl ⟨by rw [hse]; exact h0, by rw [hse]; rfl⟩⟩⟩
            · have hlt' : decide ((j : Int) < (i : Int)) = false := by simp; omega
              have HZ0 := Lib.hid (show spErr (l.map (·.a.s)) = 0 by rw [HS.out, List.drop_eq_nil_of_le (by rw [List.length_map, HN.out]; omega)]; rfl)
              have m2 := Mg.new (kv := ekV) (vv := uvV) wr
              have mA := HM.out.alloc (.map #[] 0)
              have hb6 := HB.out.alloc HB.out.size (.map #[] 0)
              obtain ⟨b2, hb2⟩ : ∃ b2, wr.heap.size = b2 := ⟨_, rfl⟩
              obtain ⟨w6, hw6⟩ : ∃ w6, wr.alloc (.map #[] 0) = w6 := ⟨_, rfl⟩
              have hlb : b < b2 := by rw [← hb2]; exact HM.out.lt
              have hlw : w.heap.size ≤ b2 := by rw [← hb2]; exact HB.out.size
              rw [hb2, hw6] at m2
              rw [hw6] at mA hb6
              have HMA := Lib.hid mA
              have HM2 := Lib.hid m2
              have HB6 := Lib.hid hb6
              have HW6 := Lib.hid hw6
              have HB2 := Lib.hid hb2
              clear HS m2 mA hb6 hw6 hb2 HM HB HM4 HB4
              go_wp2_with fail
              rw [HW6.out, HB2.out]
              clear hlt hlt' hj
              go_loopw [64] (fun i_ wr3 => ∃ k : Nat, k ≤ i ∧ i_ = .int .i64 k ∧ Hid (Mg idV spvE wr3 b M) ∧ Hid (Mg ekV uvV wr3 b2 (mgAll ((l.take k).filterMap (callC size M)) [])) ∧ Hid (Below w.heap.size w wr3)) (fun i_ _ => i - (intOf i_).toNat)
              case atStart => exact ⟨0, by omega, rfl, HMA, HM2, HB6⟩
              case round =>
                obtain ⟨k, hk, rfl, HM, HE, HB⟩ := hrel
                by_cases hki : k < i
                · have hki' : (k : Int) < (i : Int) := by omega
                  obtain ⟨x, hx⟩ : ∃ x, l[k]? = some x := ⟨_, List.getElem?_eq_getElem (by rw [HN.out]; exact hki)⟩
                  obtain ⟨ob, oo, eA, hbb, hc, hok⟩ := (HH.out.below (HB.out.mono hB)).get hx
                  subst eA
                  have hld := loadK_ae hc
                  have HX := Lib.hid hx
                  have hA2 := HM.out.alloc (.cells (adC x.a x.A x.n x.c) 45)
                  have hlk := run_mgLook (z := .agg zspC) (e := 43) idRun Try.underlying63 (by simp [Try.zeroValue43]) hA2 x.a.up true
                  have HB7 := Lib.hid (HB.out.alloc HB.out.size (.cells (adC x.a x.A x.n x.c) 45))
                  have HM7 := Lib.hid hA2
                  have HE7 := Lib.hid (HE.out.alloc (.cells (adC x.a x.A x.n x.c) 45))
                  have hstep : ∀ r, r = callC size M x → mgAll ((l.take (k + 1)).filterMap (callC size M)) [] = match r with | some e => addK (edK e) e.n (mgAll ((l.take k).filterMap (callC size M)) []) | none => mgAll ((l.take k).filterMap (callC size M)) [] := fun r hr => by
                    rw [take_snoc HX.out, List.filterMap_append]
                    cases r with
                    | none =>
                      rw [show [x].filterMap (callC size M) = [] by simp [← hr], List.append_nil]
                    | some e =>
                      rw [show [x].filterMap (callC size M) = [e] by simp [← hr], mgAll_snoc]
                  have HSTEP := Lib.hid hstep
                  have hxs := HST.out x (List.mem_of_getElem? hx)
                  clear hx hc hok hA2 hstep HM HE HB
                  cases hup : mgGet x.a.up M with
                  | none =>
                    rw [hup] at hlk
                    simp only [if_true, Option.map_none, Option.getD_none, Option.isSome_none] at hlk
                    have hcn : callC size M x = none := by rw [callC, hup]
                    have hst2 := HSTEP.out none hcn.symm
                    have HST2 := Lib.hid hst2
                    clear hst2 HSTEP hcn hup
                    go_wp2_with fail
                    exact ⟨⟨k + 1, by omega, by go_num, Lib.hid (HM7.out.alloc _), Lib.hid (by rw [HST2.out]; exact HE7.out.alloc _), Lib.hid (HB7.out.alloc HB7.out.size _)⟩, by simp only [intOf]; omega⟩
                  | some y =>
                    rw [hup] at hlk
                    simp only [if_true, Option.map_some, Option.getD_some, Option.isSome_some] at hlk
                    by_cases hsv : y.a.s.service = x.a.s.service
                    · have hcn : callC size M x = none := by rw [callC, hup]; simp [hsv]
                      have hst2 := HSTEP.out none hcn.symm
                      have HST2 := Lib.hid hst2
                      have hsv' : (y.a.s.service.toList == x.a.s.service.toList) = true := by rw [strEq_of', decide_eq_true hsv]
                      have hsv'' : (y.a.s.service.toList != x.a.s.service.toList) = false := by rw [bne, hsv']; rfl
                      clear hst2 HSTEP hcn hup
                      go_wp2_with fail
                      exact ⟨⟨k + 1, by omega, by go_num, Lib.hid (HM7.out.alloc _), Lib.hid (by rw [HST2.out]; exact HE7.out.alloc _), Lib.hid (HB7.out.alloc HB7.out.size _)⟩, by simp only [intOf]; omega⟩
                    · have hcn : callC size M x = some ⟨(bktOf x.a.s.start size).1, y.a.s.service, x.a.s.service, 1⟩ := by rw [callC, hup]; simp [hsv]
                      have hst2 := HSTEP.out _ hcn.symm
                      have HST2 := Lib.hid hst2
                      have hsv' : (y.a.s.service.toList == x.a.s.service.toList) = false := by rw [strEq_of', decide_eq_false hsv]
                      have hsv'' : (y.a.s.service.toList != x.a.s.service.toList) = true := by rw [bne, hsv']; rfl
                      clear hst2 HSTEP hcn hup
                      go_wp2_with fail
                      refine (deBucket x.a.s.start size _ hxs.2 hxs.1 hs0 hs1).mono ?_
                      rintro en w8 ⟨rfl, hw8⟩
                      rw [hw8]
                      clear hw8
                      go_wp2_with fail
                      refine (deAdd ⟨(bktOf x.a.s.start size).1, y.a.s.service, x.a.s.service⟩ 1 _ (HE7.out.alloc _)).mono ?_
                      rintro en w9 ⟨rfl, hE9, hg9, hs9⟩
                      go_wp2_with fail
                      exact ⟨⟨k + 1, by omega, by go_num, Lib.hid ((HM7.out.alloc _).grown hg9 (fun e => by have := Option.some.inj e; omega)), Lib.hid (by rw [HST2.out]; exact hE9), Lib.hid ((HB7.out.alloc HB7.out.size _).trans (below_grownJ hg9 (by have := HB7.out.size; simp at this ⊢; omega) (fun j hj => by have := Option.some.inj hj; omega)))⟩, by simp only [intOf]; omega⟩
                · have hki' : decide ((k : Int) < (i : Int)) = false := by simp; omega
                  obtain rfl : k = i := by omega
                  have he := HE.out
                  rw [List.take_of_length_le (by rw [HN.out]; omega), ← HMM.out] at he
                  have hfl : (l.filterMap (callC size (atTo l))).length ≤ 200 := Nat.le_trans (List.length_filterMap_le _ _) (by rw [HN.out]; omega)
                  have hll : (mgAll (l.filterMap (callC size (atTo l))) []).length ≤ 200 := by
                    have := mgAll_len (l.filterMap (callC size (atTo l))) []
                    simp at this
                    omega
                  have hfew := mgAll_few (xs := l.filterMap (callC size (atTo l))) (M := []) (c := 0) (fun e he => by
                    obtain ⟨z, _, hz⟩ := List.mem_filterMap.1 he
                    exact callC_one hz) (fun p hp => by cases hp) List.nodup_nil
                  have hli := deList wr he (by omega)
                  have HFEW := Lib.hid hfew
                  have HFL := Lib.hid hfl
                  clear hfew hfl hll he HE HM
                  go_wp2_with fail
                  refine hli.mono ?_
                  rintro en w8 (⟨⟨p, hp, hlt⟩, -, -⟩ | ⟨-, A8, c8, n8, out, hperm, hsort, hlen8, rfl, hown, hb8⟩)
                  · have h1 := HFEW.out p hp
                    have h2 := HFL.out
                    omega
                  · go_wp2_with fail
                    go_ret2
                    exact ⟨HB.out.trans (hb8.mono HB.out.size), .inr ⟨HNB.out, .inr ⟨HZ0.out, A8, c8, n8, out, hperm, hsort, hlen8, rfl, own_baseJ hown HB.out.size⟩⟩⟩
      · have hqn' : ((q : Int) != (i : Int)) = true := by simp; omega
        go_wp2_with fail
        go_ret2
        exact ⟨HB.out, .inl ⟨.inr (.inl (by rw [HMM.out, HQ.out, HN.out]; exact hqn)), rfl⟩⟩
end Go.Proofs.Ythaiplhjekkooaa
