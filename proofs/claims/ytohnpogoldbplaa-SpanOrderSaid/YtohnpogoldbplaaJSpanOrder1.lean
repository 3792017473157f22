/- Texts of the proof of SpanOrderSaid, joined: Sort Lib Byt Clone Kit WireM WireNum WireOrd. -/
import Derived.Shelf.SlGeneric
import Derived.Shelf.SlSortCmp.WholeK
import Derived.Ground.SlsfProg
import Derived.Test.YtohnpogoldbplaaProg
import Derived.WalkKit
import Derived.WalkSpells
import Derived.WalkLawsBesides
import Derived.Handy
import Derived.Below
import Derived.Laws.OwnMore
import Derived.Deep.AppendLies
import Derived.Deep.Draws
import Derived.Deep.QuietTactic
import Derived.BigQuiet
import Derived.Maps.AppendAt
import Derived.RegionTactic
import Derived.OwnWalk
import Derived.Lib.Hide
import Derived.Laws.BytesArg
import Derived.Lib.SliceRun
/-
  DERIVED: THE SHELF's CONTRACTS AT THIS DUMP, IN PLAIN WORDS (tools/lay-plain.mjs out of 'TrySort.lean', which tools/lay-shelf.mjs wrote): THE SAME DECLARATIONS UNDER THE SAME NAMES: 'import', 'namespace', 'open', 'def', 'theorem' AND NOTHING ELSE: no command of the shelf's: FOR A HAND-IN. Each laying: the table of numbers ('.._ren') and one theorem, a field a fact of the dump's own or the kernel's comparison; each contract: ONE APPLICATION.
-/
namespace Go.Proofs
open Go.Shelf
def Try.sortSp_ren : Go.Shelf.Ren := ⟨fun | 6 => 71 | 15 => 91 | 14 => 90 | 28 => 103 | 29 => 104 | 20 => 95 | 21 => 96 | 22 => 97 | 23 => 98 | 24 => 99 | 25 => 100 | 26 => 101 | 27 => 102 | 46 => 105 | 47 => 106 | 48 => 107 | 49 => 108 | 50 => 109 | 57 => 110 | n => n, fun | 22 => 52 | 24 => 27 | 25 => 47 | 3 => 3 | 39 => 76 | 0 => 0 | 53 => 118 | 55 => 22 | 4 => 4 | 46 => 111 | 45 => 110 | 50 => 115 | 5 => 5 | 9 => 9 | 66 => 121 | 70 => 124 | 76 => 126 | 77 => 127 | n => n, fun | n => n⟩
theorem Try.sortSp : Go.Proofs.SlLaysF0.n6 Try.prog Try.sortSp_ren := {
  mixed := by kernel_rfl
  f6 := ⟨Try.f71.name, by decide, Try.func71.trans (congrArg some (by kernel_rfl))⟩
  f14 := ⟨Try.f90.name, by decide, Try.func90.trans (congrArg some (by kernel_rfl))⟩
  f15 := Try.func91.trans (congrArg some (by kernel_rfl))
  f20 := ⟨Try.f95.name, by decide, Try.func95.trans (congrArg some (by kernel_rfl))⟩
  f21 := ⟨Try.f96.name, by decide, Try.func96.trans (congrArg some (by kernel_rfl))⟩
  f22 := ⟨Try.f97.name, by decide, Try.func97.trans (congrArg some (by kernel_rfl))⟩
  f23 := ⟨Try.f98.name, by decide, Try.func98.trans (congrArg some (by kernel_rfl))⟩
  f24 := ⟨Try.f99.name, by decide, Try.func99.trans (congrArg some (by kernel_rfl))⟩
  f25 := ⟨Try.f100.name, by decide, Try.func100.trans (congrArg some (by kernel_rfl))⟩
  f26 := ⟨Try.f101.name, by decide, Try.func101.trans (congrArg some (by kernel_rfl))⟩
  f27 := ⟨Try.f102.name, by decide, Try.func102.trans (congrArg some (by kernel_rfl))⟩
  f28 := Try.func103.trans (congrArg some (by kernel_rfl))
  f29 := Try.func104.trans (congrArg some (by kernel_rfl))
  f46 := ⟨Try.f105.name, by decide, Try.func105.trans (congrArg some (by kernel_rfl))⟩
  f47 := Try.func106.trans (congrArg some (by kernel_rfl))
  f48 := Try.func107.trans (congrArg some (by kernel_rfl))
  f49 := ⟨Try.f108.name, by decide, Try.func108.trans (congrArg some (by kernel_rfl))⟩
  f50 := ⟨Try.f109.name, by decide, Try.func109.trans (congrArg some (by kernel_rfl))⟩
  f57 := ⟨Try.f110.name, by decide, Try.func110.trans (congrArg some (by kernel_rfl))⟩
  t0 := Try.underlying0
  a0 := Try.isAgg0
  z0 := Try.sizeOf0
  v0 := Try.zeroValue0
  t3 := Try.underlying3
  a3 := Try.isAgg3
  z3 := Try.sizeOf3
  v3 := Try.zeroValue3
  t4 := Try.underlying4
  a4 := Try.isAgg4
  z4 := Try.sizeOf4
  v4 := Try.zeroValue4
  t5 := Try.underlying5
  a5 := Try.isAgg5
  z5 := Try.sizeOf5
  v5 := Try.zeroValue5
  t9 := Try.underlying9
  a9 := Try.isAgg9
  z9 := Try.sizeOf9
  v9 := Try.zeroValue9
  t22 := Try.underlying52
  a22 := Try.isAgg52
  z22 := Try.sizeOf52
  v22 := Try.zeroValue52
  t25 := Try.underlying47
  a25 := Try.isAgg47
  z25 := Try.sizeOf47
  v25 := Try.zeroValue47
  t39 := Try.underlying76
  a39 := Try.isAgg76
  z39 := Try.sizeOf76
  v39 := Try.zeroValue76
  t45 := Try.underlying110
  a45 := Try.isAgg110
  z45 := Try.sizeOf110
  v45 := Try.zeroValue110
  t46 := Try.underlying111
  a46 := Try.isAgg111
  z46 := Try.sizeOf111
  v46 := Try.zeroValue111
  t50 := Try.underlying115
  a50 := Try.isAgg115
  z50 := Try.sizeOf115
  v50 := Try.zeroValue115
  t53 := Try.underlying118
  a53 := Try.isAgg118
  z53 := Try.sizeOf118
  v53 := Try.zeroValue118
  t55 := Try.underlying22
  a55 := Try.isAgg22
  z55 := Try.sizeOf22
  v55 := Try.zeroValue22
  t66 := Try.underlying121
  a66 := Try.isAgg121
  z66 := Try.sizeOf121
  v66 := Try.zeroValue121
  t70 := Try.underlying124
  a70 := Try.isAgg124
  z70 := Try.sizeOf124
  v70 := Try.zeroValue124
  t76 := Try.underlying126
  a76 := Try.isAgg126
  z76 := Try.sizeOf126
  v76 := Try.zeroValue126
  t77 := Try.underlying127
  a77 := Try.isAgg127
  z77 := Try.sizeOf127
  v77 := Try.zeroValue127 }
end Go.Proofs

/- Words for memory that all texts of this seat use: cells that read as a list, a block that is known whole, an append onto a row of the call's own. Plain lemmas over any program. -/
namespace Go.Proofs.Ytohnpogoldbplaa
open Go.RowKit

/-- From address A on, below block B, lie the cells xs. -/
def Rd (w : World) (B : Nat) (A : Option Addr) (xs : List Value) : Prop :=
  xs ≠ [] → ∃ b o, A = some ⟨b, o, none⟩ ∧ b < B ∧ ∀ j u, xs[j]? = some u → w.cell? ⟨b, o + j, none⟩ = some u

section
variable {w w' : World} {B B' : Nat} {A : Option Addr} {xs : List Value}
theorem Rd.nil : Rd w B A [] := fun h => absurd rfl h
theorem Rd.get {k : Nat} {u : Value} (h : Rd w B A xs) (hk : xs[k]? = some u) : ∃ b o, A = some ⟨b, o, none⟩ ∧ b < B ∧ w.cell? ⟨b, o + k, none⟩ = some u := by
  obtain ⟨b, o, e, hb, hc⟩ := h (by rintro rfl; simp at hk)
  exact ⟨b, o, e, hb, hc k u hk⟩
theorem Rd.keep (h : Rd w B A xs) (hk : ∀ p : Addr, p.block < B → w'.cell? p = w.cell? p) : Rd w' B A xs := fun hn => by
  obtain ⟨b, o, e, hb, hc⟩ := h hn
  exact ⟨b, o, e, hb, fun j u hu => (hk ⟨b, o + j, none⟩ hb).trans (hc j u hu)⟩
theorem Rd.more (h : Rd w B A xs) (hB : B ≤ B') : Rd w B' A xs := fun hn => by
  obtain ⟨b, o, e, hb, hc⟩ := h hn
  exact ⟨b, o, e, by omega, hc⟩
theorem Rd.below (h : Rd w B A xs) (hb : Below B w w') : Rd w' B A xs := h.keep fun _ hp => hb.cell hp
theorem Rd.drew (h : Rd w B A xs) : Rd w.drew B A xs := h
theorem Rd.drewN (h : Rd w B A xs) (k : Nat) : Rd (w.drewN k) B A xs := h
theorem Rd.alloc (h : Rd w B A xs) (hB : B ≤ w.heap.size) (o : Obj) : Rd (w.alloc o) B A xs := h.keep fun p hp => World.cell?_alloc_lt w o p (by omega)
theorem Rd.set (h : Rd w B A xs) {p : Addr} (hB : B ≤ p.block) (u : Value) : Rd (w.setCell p u) B A xs :=
  h.keep fun q hq => World.cell?_setCell_other w p q u (fun e => by subst e; omega)
theorem Rd.grown (h : Rd w B A xs) {row : Option Nat} (hg : w.grownBy w' row) (hB : B ≤ w.heap.size) (hr : ∀ g, row = some g → B ≤ g) : Rd w' B A xs :=
  h.keep fun p hp => World.cell?_of_block (hg.block p.block (by omega) (fun e => by have := hr _ e.symm; omega))
/-- The cells from k on. The address as the model writes it. -/
theorem Rd.drop (h : Rd w B A xs) {k cap : Nat} (hc : xs.length ≤ cap) : Rd w B (if cap = k then A else A.map (·.add k)) (xs.drop k) := fun hn => by
  have hl : k < xs.length := by
    rcases Nat.lt_or_ge k xs.length with h1 | h1
    · exact h1
    · exact absurd (List.drop_eq_nil_of_le h1) hn
  obtain ⟨b, o, rfl, hb, hcell⟩ := h (by rintro rfl; simp at hl)
  rw [if_neg (by omega)]
  refine ⟨b, o + k, by simp [Addr.add_lit], hb, fun j u hu => ?_⟩
  rw [Nat.add_assoc]
  exact hcell _ u (by rw [← hu, List.getElem?_drop])
theorem Rd.take (h : Rd w B A xs) (k : Nat) : Rd w B A (xs.take k) := fun hn => by
  obtain ⟨b, o, e, hb, hc⟩ := h (by rintro rfl; simp at hn)
  refine ⟨b, o, e, hb, fun j u hu => hc j u ?_⟩
  rw [List.getElem?_take] at hu
  split at hu
  · exact hu
  · cases hu
theorem Rd.of_own {base n c size : Nat} {e : TypeId} (h : w.ownsRow base e size (.slice A n c) n xs) : Rd w w.heap.size A xs := fun hn => by
  have hn0 : 0 < n := by
    rcases Nat.eq_zero_or_pos n with h0 | h0
    · exact absurd (List.eq_nil_of_length_eq_zero (by rw [h.1, h0, Nat.zero_mul])) hn
    · exact h0
  obtain ⟨g, cap, hv, _, hlt⟩ := h.form hn0
  have hA : A = some ⟨g, 0, none⟩ := by injection hv
  subst hA
  refine ⟨g, 0, rfl, hlt, fun j u hu => ?_⟩
  have := h.cells (g := g) rfl j u hu
  rwa [Addr.add_lit] at this
end

section
variable {w w' : World} {A : Option Addr} {xs : List Value}
/-- The same, the bound being the heap's own size. -/
theorem Rd.belowS (h : Rd w w.heap.size A xs) (hb : Below w.heap.size w w') : Rd w' w'.heap.size A xs := (h.below hb).more hb.size
theorem Rd.allocS (h : Rd w w.heap.size A xs) (o : Obj) : Rd (w.alloc o) (w.alloc o).heap.size A xs := (h.alloc (Nat.le_refl _) o).more (by simp)
theorem Rd.grownS {row : Option Nat} (h : Rd w w.heap.size A xs) (hg : w.grownBy w' row) (hs : ∀ a, A = some a → row ≠ some a.block) : Rd w' w'.heap.size A xs := fun hn => by
  obtain ⟨b, o, rfl, hb, hc⟩ := h hn
  exact ⟨b, o, rfl, Nat.lt_of_lt_of_le hb hg.size, fun j u hu => (World.cell?_of_block (a := ⟨b, o + j, none⟩) (hg.block b hb (fun e => hs _ rfl e.symm))).trans (hc j u hu)⟩
end
/-- A block that has just been laid. -/
theorem Rd.lit (w : World) (cs : Array Value) (t : TypeId) : Rd (w.alloc (.cells cs t)) (w.heap.size + 1) (some ⟨w.heap.size, 0, none⟩) cs.toList := fun _ =>
  ⟨w.heap.size, 0, rfl, by omega, fun j u hu => by
    rw [cell_of_row _ w.heap.size (0 + j) cs t (0, 0) (heap_alloc_new w _)]
    simpa using hu⟩

theorem Rd.lit' {w : World} {cs : Array Value} {t : TypeId} {g : Nat} (hg : w.heap.size = g) : Rd (w.alloc (.cells cs t)) (g + 1) (some ⟨g, 0, none⟩) cs.toList := by
  subst hg
  exact Rd.lit w cs t

/-- Block g is just the cells cs of element type t, none of them frozen. -/
def Bk (w : World) (g : Nat) (t : TypeId) (cs : Array Value) : Prop := w.heap[g]? = some (.cells cs t (0, 0))
section
variable {w w' : World} {g : Nat} {t : TypeId} {cs : Array Value}
theorem Bk.lt (h : Bk w g t cs) : g < w.heap.size := (Array.getElem?_eq_some_iff.1 h).1
theorem Bk.cell (h : Bk w g t cs) (i : Nat) : w.cell? ⟨g, i, none⟩ = cs[i]? := cell_of_row w g i cs t (0, 0) h
theorem Bk.frozen (h : Bk w g t cs) (i : Nat) : w.frozen? ⟨g, i, none⟩ = false := by
  unfold Bk at h
  simp [World.frozen?, h]
theorem Bk.new (w : World) (t : TypeId) (cs : Array Value) : Bk (w.alloc (.cells cs t)) w.heap.size t cs := heap_alloc_new w _
theorem Bk.drew (h : Bk w g t cs) : Bk w.drew g t cs := h
theorem Bk.drewN (h : Bk w g t cs) (n : Nat) : Bk (w.drewN n) g t cs := h
theorem Bk.alloc (h : Bk w g t cs) (o : Obj) : Bk (w.alloc o) g t cs := (Below.heap_alloc w o g h.lt).trans h
theorem Bk.set (h : Bk w g t cs) (i : Nat) (u : Value) : Bk (w.setCell ⟨g, i, none⟩ u) g t (cs.setIfInBounds i u) := by
  unfold Bk at h ⊢
  simp [World.setCell, Array.getElem?_modify, h]
theorem Bk.far (h : Bk w g t cs) {p : Addr} (hp : g ≠ p.block) (u : Value) : Bk (w.setCell p u) g t cs := (Below.heap_setCell w p u g hp).trans h
theorem Bk.below {B : Nat} (h : Bk w g t cs) (hb : Below B w w') (hg : g < B) : Bk w' g t cs := (hb.block g hg).trans h
theorem Bk.grown {row : Option Nat} (h : Bk w g t cs) (hb : w.grownBy w' row) (hg : some g ≠ row) : Bk w' g t cs := (hb.block g h.lt hg).trans h
end

theorem below_drewN {B : Nat} {a w : World} (h : Below B a w) (n : Nat) : Below B a (w.drewN n) := ⟨h.os, h.tape, h.output, h.size, h.block⟩
theorem below_all {a w : World} (h : ∃ n, w = a.drewN n) (B : Nat) : Below B a w := by obtain ⟨n, rfl⟩ := h; exact below_drewN (Below.refl _ _) n

/-! ### append of cells that read as a list (nil, empty or not) onto a row of the call's own -/
section
variable {P : Program} (w : World)
theorem run_app (base : Nat) (t ty e : TypeId) (i : TypeInfo) (z : Value) (size bytes : Nat) (ht : P.underlying t = some (.slice e)) (hi : P.info? e = some i) (hz : i.zero = some z)
    (hsize : i.size = size) (hby : i.bytes = bytes) (hzs : z.cells.size = size) (hsz : 0 < size)
    (v : Value) (n : Nat) (xs : List Value) (hown : w.ownsRow base e size v n xs)
    (B : Nat) (A : Option Addr) (m c : Nat) (news : List Value) (hl : news.length = m * size) (hr : Rd w B A news) (h1 : ∀ u ∈ news, u.oneCell' = true)
    (h63 : n + m ≤ maxLen) (hbytes : (n + m) * bytes ≤ 140737488355328) (hbase : base ≤ w.heap.size) :
    ∃ v' w', (Builtin.append_ #[t, t] ty #[v, .slice A m c]).run P w = .ok v' w' ∧ w'.ownsRow base e size v' (n + m) (xs ++ news) ∧ w.grownBy w' v.ownBlock ∧
      (v'.ownBlock = v.ownBlock ∨ v'.ownBlock = some w.heap.size) ∧ (∃ A' c', v' = .slice A' (n + m) c') ∧ (v' = .slice none 0 0 → v = .slice none 0 0 ∧ m = 0) := by
  have form : ∀ {W : World} {v' : Value} {k : Nat} {ys : List Value}, W.ownsRow base e size v' k ys → ∃ A' c', v' = .slice A' k c' := by
    intro W v' k ys h
    rcases h.2 with ⟨rfl, rfl⟩ | ⟨g, cap, cur, rfl, _⟩
    · exact ⟨none, 0, rfl⟩
    · exact ⟨_, cap, rfl⟩
  by_cases hm : m = 0
  · subst hm
    have hn : news = [] := List.eq_nil_of_length_eq_zero (by simpa using hl)
    subst hn
    rcases A with _ | ad
    · refine ⟨v, w, ?_, by simpa using hown, World.grownBy.refl w _, .inl rfl, by simpa using form hown, fun h => ⟨h, rfl⟩⟩
      rcases hown.2 with ⟨rfl, rfl⟩ | ⟨g, cap, cur, rfl, _, _, hnc, _⟩
      · simp [Builtin.append_, run_underlying ht, sizeOf, typeInfo, hi, Builtin.lenOf, Builtin.firstCells]
      · simp [Builtin.append_, run_underlying ht, sizeOf, typeInfo, hi, Builtin.lenOf, Builtin.firstCells, hnc, storeCells]
    · obtain ⟨v', w', hrun, h2, h3, h4, h5⟩ := run_append_own_at (P := P) w base t ty e i z size bytes ht hi hz hsize hby hzs hsz v n xs hown ad 0 c [] hl (fun j u hu => by simp at hu) h1 h63 hbytes hbase
      exact ⟨v', w', hrun, h2, h3, h5, form h2, fun h => h4.1 h⟩
  · have hne : news ≠ [] := by
      rintro rfl
      have := Nat.mul_pos (Nat.pos_of_ne_zero hm) hsz
      simp at hl
      omega
    obtain ⟨b, o, rfl, hb, hc⟩ := hr hne
    obtain ⟨v', w', hrun, h2, h3, h4, h5⟩ := run_append_own_at (P := P) w base t ty e i z size bytes ht hi hz hsize hby hzs hsz v n xs hown ⟨b, o, none⟩ m c news hl (fun j u hu => by rw [Addr.add_lit]; exact hc j u hu) h1 h63 hbytes hbase
    exact ⟨v', w', hrun, h2, h3, h5, form h2, fun h => h4.1 h⟩

theorem wp_app {o : Oper} {a : Act} {K : Act → World → Prop} {Q : Exit → Act → World → Prop} (s x : Operand) (t : TypeId)
    (ho : o.op = .call { callee := .builtin .append, args := #[s, x], argTypes := #[t, t] })
    (base : Nat) (e : TypeId) (i : TypeInfo) (z : Value) (size bytes : Nat) (ht : P.underlying t = some (.slice e)) (hi : P.info? e = some i) (hz : i.zero = some z)
    (hsize : i.size = size) (hby : i.bytes = bytes) (hzs : z.cells.size = size) (hsz : 0 < size)
    (v : Value) (n : Nat) (xs : List Value) (hs : a.eval s = v) (hown : w.ownsRow base e size v n xs)
    (B : Nat) (A : Option Addr) (m c : Nat) (news : List Value) (hx : a.eval x = .slice A m c) (hl : news.length = m * size) (hr : Rd w B A news) (h1 : ∀ u ∈ news, u.oneCell' = true)
    (h63 : n + m ≤ maxLen) (hbytes : (n + m) * bytes ≤ 140737488355328) (hbase : base ≤ w.heap.size)
    (h : ∀ A' c' w', w'.ownsRow base e size (.slice A' (n + m) c') (n + m) (xs ++ news) → w.grownBy w' v.ownBlock → ((Value.slice A' (n + m) c').ownBlock = v.ownBlock ∨ (Value.slice A' (n + m) c').ownBlock = some w.heap.size) →
      (A' = none → v = .slice none 0 0 ∧ m = 0) → K (a.put o.dst (.slice A' (n + m) c')) w') : o.wp P a w K Q := by
  obtain ⟨v', w', hrun, h2, h3, h4, ⟨A', c', rfl⟩, h6⟩ := run_app (P := P) w base t o.type e i z size bytes ht hi hz hsize hby hzs hsz v n xs hown B A m c news hl hr h1 h63 hbytes hbase
  unfold Oper.wp execOp
  simp only [ho, resolve, invoke, builtin, Sem.run_bind, Sem.run_pure, Result.andThen_ok, List.map_toArray, List.map_cons, List.map_nil, hs, hx, hrun]
  refine h A' c' w' h2 h3 h4 (fun hA => h6 ?_)
  subst hA
  rcases h2.2 with ⟨e1, _⟩ | ⟨g, cap, cur, e1, _⟩
  · exact e1
  · injection e1 with e1; cases e1

theorem wpList_app {ops : Array Oper} {rest : List Oper} {o : Oper} {a : Act} {Q : Exit → Act → World → Prop} (hgd : o.guard = none) (s x : Operand) (t : TypeId)
    (ho : o.op = .call { callee := .builtin .append, args := #[s, x], argTypes := #[t, t] })
    (base : Nat) (e : TypeId) (i : TypeInfo) (z : Value) (size bytes : Nat) (ht : P.underlying t = some (.slice e)) (hi : P.info? e = some i) (hz : i.zero = some z)
    (hsize : i.size = size) (hby : i.bytes = bytes) (hzs : z.cells.size = size) (hsz : 0 < size)
    (v : Value) (n : Nat) (xs : List Value) (hs : a.eval s = v) (hown : w.ownsRow base e size v n xs)
    (B : Nat) (A : Option Addr) (m c : Nat) (news : List Value) (hx : a.eval x = .slice A m c) (hl : news.length = m * size) (hr : Rd w B A news) (h1 : ∀ u ∈ news, u.oneCell' = true)
    (h63 : n + m ≤ maxLen) (hbytes : (n + m) * bytes ≤ 140737488355328) (hbase : base ≤ w.heap.size)
    (h : ∀ A' c' w', w'.ownsRow base e size (.slice A' (n + m) c') (n + m) (xs ++ news) → w.grownBy w' v.ownBlock → ((Value.slice A' (n + m) c').ownBlock = v.ownBlock ∨ (Value.slice A' (n + m) c').ownBlock = some w.heap.size) →
      (A' = none → v = .slice none 0 0 ∧ m = 0) → wpList P ops Q rest (a.put o.dst (.slice A' (n + m) c')) w') : wpList P ops Q (o :: rest) a w :=
  wpList_plain hgd fun _ hK => wp_app w s x t ho base e i z size bytes ht hi hz hsize hby hzs hsz v n xs hs hown B A m c news hx hl hr h1 h63 hbytes hbase fun A' c' w' h2 h3 h4 h5 => hK _ _ (h A' c' w' h2 h3 h4 h5)
end

/-! ### bytes -/
def bv (zs : List Int) : List Value := zs.map (Value.int .u8)
theorem bv_length (zs : List Int) : (bv zs).length = zs.length := by simp [bv]
theorem bv_append (a b : List Int) : bv (a ++ b) = bv a ++ bv b := by simp [bv]
theorem bv_take (a : List Int) (k : Nat) : (bv a).take k = bv (a.take k) := by simp [bv]
theorem bv_drop (a : List Int) (k : Nat) : (bv a).drop k = bv (a.drop k) := by simp [bv]
theorem bv_get {zs : List Int} {k : Nat} {x : Int} (hk : zs[k]? = some x) : (bv zs)[k]? = some (.int .u8 x) := by simp [bv, hk]
theorem bv_one (zs : List Int) : ∀ u ∈ bv zs, u.oneCell' = true := by
  intro u hu
  obtain ⟨x, _, rfl⟩ := List.mem_map.1 hu
  rfl
/-- Each is a byte. -/
def Byt (zs : List Int) : Prop := ∀ x ∈ zs, 0 ≤ x ∧ x ≤ 255
theorem Byt.of {zs : List Int} (h : (zs.all fun x => decide (0 ≤ x) && decide (x ≤ 255)) = true) : Byt zs := fun x hx => by
  have := List.all_eq_true.1 h x hx
  simpa using this
theorem Byt.get {zs : List Int} (h : Byt zs) {k : Nat} {x : Int} (hk : zs[k]? = some x) : 0 ≤ x ∧ x ≤ 255 := h x (List.mem_of_getElem? hk)
theorem Byt.append {a b : List Int} (h : Byt a) (k : Byt b) : Byt (a ++ b) := fun x hx => (List.mem_append.1 hx).elim (h x) (k x)
theorem Byt.take {a : List Int} (h : Byt a) (k : Nat) : Byt (a.take k) := fun x hx => h x (List.mem_of_mem_take hx)
theorem Byt.drop {a : List Int} (h : Byt a) (k : Nat) : Byt (a.drop k) := fun x hx => h x (List.mem_of_mem_drop hx)
/-- The bytes zs lie from A on. -/
abbrev Rb (w : World) (B : Nat) (A : Option Addr) (zs : List Int) : Prop := Rd w B A (bv zs)
theorem Rb.get {w : World} {B : Nat} {A : Option Addr} {zs : List Int} (h : Rb w B A zs) {k : Nat} (hk : k < zs.length) :
    ∃ b o x, zs[k]? = some x ∧ A = some ⟨b, o, none⟩ ∧ b < B ∧ w.cell? ⟨b, o + k, none⟩ = some (.int .u8 x) := by
  have e := List.getElem?_eq_getElem hk
  obtain ⟨b, o, h1, h2, h3⟩ := Rd.get h (bv_get e)
  exact ⟨b, o, zs[k], e, h1, h2, h3⟩

/-! ### 'w' is w, but for an append in place onto the owned slice v, which has become v'' -/
structure App (base : Nat) (e : TypeId) (size : Nat) (w : World) (v : Value) (w' : World) (v' : Value) (n : Nat) (xs : List Value) : Prop where
  own : w'.ownsRow base e size v' n xs
  grown : w.grownBy w' v.ownBlock
  block : v'.ownBlock = v.ownBlock ∨ ∃ k, v'.ownBlock = some k ∧ w.heap.size ≤ k
section
variable {base : Nat} {e : TypeId} {size n n' : Nat} {w w' w2 : World} {v v' v2 : Value} {xs ys : List Value}
theorem App.refl (h : w.ownsRow base e size v n xs) : App base e size w v w v n xs := ⟨h, World.grownBy.refl w _, .inl rfl⟩
theorem grown_row {a b c : World} {r r' : Option Nat} (h : a.grownBy b r) (k : b.grownBy c r') (hr : r' = r ∨ ∃ g, r' = some g ∧ a.heap.size ≤ g) : a.grownBy c r :=
  ⟨k.os.trans h.os, k.tape.trans h.tape, k.output.trans h.output, Nat.le_trans h.size k.size, fun i hi hne => (k.block i (Nat.lt_of_lt_of_le hi h.size) (by
    rcases hr with rfl | ⟨g, rfl, hg⟩
    · exact hne
    · intro e; injection e with e; omega)).trans (h.block i hi hne)⟩
theorem App.trans (h : App base e size w v w' v' n xs) (k : App base e size w' v' w2 v2 n' ys) : App base e size w v w2 v2 n' ys := by
  refine ⟨k.own, grown_row h.grown k.grown h.block, ?_⟩
  rcases k.block with hb | ⟨g, hg, hl⟩
  · rcases h.block with hb' | ⟨g, hg, hl⟩
    · exact .inl (hb.trans hb')
    · exact .inr ⟨g, hb.trans hg, hl⟩
  · exact .inr ⟨g, hg, Nat.le_trans h.grown.size hl⟩
theorem App.drewN (h : App base e size w v w' v' n xs) (k : Nat) : App base e size w v (w'.drewN k) v' n xs :=
  ⟨h.own, ⟨h.grown.os, h.grown.tape, h.grown.output, h.grown.size, h.grown.block⟩, h.block⟩
theorem App.drew (h : App base e size w v w' v' n xs) : App base e size w v w'.drew v' n xs :=
  ⟨h.own, ⟨h.grown.os, h.grown.tape, h.grown.output, h.grown.size, h.grown.block⟩, h.block⟩
theorem App.alloc (h : App base e size w v w' v' n xs) (o : Obj) : App base e size w v (w'.alloc o) v' n xs :=
  ⟨h.own.alloc o, ⟨h.grown.os, h.grown.tape, h.grown.output, by have := h.grown.size; simp; omega, fun i hi hne => (Below.heap_alloc w' o i (Nat.lt_of_lt_of_le hi h.grown.size)).trans (h.grown.block i hi hne)⟩, h.block⟩
/-- One append more, as the law hands it over (a box for what is appended was laid ahead of it, or not). -/
theorem App.step (h : App base e size w v w' v' n xs) {w1 : World} (ho : w1.ownsRow base e size v2 n' ys) (hg : w'.grownBy w1 v'.ownBlock) (hb : v2.ownBlock = v'.ownBlock ∨ v2.ownBlock = some w'.heap.size) : App base e size w v w1 v2 n' ys :=
  h.trans ⟨ho, hg, hb.imp id fun h => ⟨_, h, Nat.le_refl _⟩⟩
/-- What was made since w, seen from w: an append onto nil. -/
theorem App.fresh {w1 : World} (h : App base e size w1 v w' v' n xs) (hg : w.grownBy w1 none) (hv : ∀ k, v.ownBlock = some k → w.heap.size ≤ k) : App base e size w (.slice none 0 0) w' v' n xs := by
  have hr : v.ownBlock = none ∨ ∃ g, v.ownBlock = some g ∧ w.heap.size ≤ g := by
    cases hb : v.ownBlock with
    | none => exact .inl rfl
    | some k => exact .inr ⟨k, rfl, hv k hb⟩
  refine ⟨h.own, grown_row hg h.grown hr, ?_⟩
  rcases h.block with hb | ⟨g, hb, hl⟩
  · rcases hr with hr | ⟨g, hr, hl⟩
    · exact .inl (hb.trans hr)
    · exact .inr ⟨g, hb.trans hr, hl⟩
  · exact .inr ⟨g, hb, Nat.le_trans hg.size hl⟩
theorem App.fresh1 {o : Obj} (h : App base e size (w.alloc o) (.slice (some ⟨w.heap.size, 0, none⟩) 0 0) w' v' n xs) : App base e size w (.slice none 0 0) w' v' n xs :=
  h.fresh (World.grownBy_alloc w o none) (fun k hk => by simp [Value.ownBlock] at hk; omega)
theorem App.below0 (h : App base e size w (.slice none 0 0) w' v' n xs) : Below w.heap.size w w' :=
  ⟨h.grown.os, h.grown.tape, h.grown.output, h.grown.size, fun k hk => h.grown.block k hk (by simp [Value.ownBlock])⟩
theorem App.below {B : Nat} (h : App base e size w v w' v' n xs) (hB : B ≤ w.heap.size) (hv : ∀ k, v.ownBlock = some k → B ≤ k) : Below B w w' :=
  ⟨h.grown.os, h.grown.tape, h.grown.output, h.grown.size, fun k hk => h.grown.block k (by omega) (fun e => by have := hv k e.symm; omega)⟩
/-- A store into the row. -/
theorem App.set {g c : Nat} (h : App base e size w v w' (.slice (some ⟨g, 0, none⟩) n c) n xs) (j : Nat) (u : Value) : App base e size w v (w'.setCell ⟨g, j, none⟩ u) (.slice (some ⟨g, 0, none⟩) n c) n (xs.set j u) :=
  h.trans ⟨(h.own.stored j u).1, (h.own.stored j u).2, .inl rfl⟩
/-- What is done beside it leaves it. -/
theorem App.later (h : App base e size w v w' v' n xs) (hb : Below w'.heap.size w' w2) : App base e size w v w2 v' n xs :=
  ⟨h.own.kept (row := none) ⟨hb.os, hb.tape, hb.output, hb.size, fun k hk _ => hb.block k hk⟩ (by cases v'.ownBlock <;> simp),
    ⟨hb.os.trans h.grown.os, hb.tape.trans h.grown.tape, hb.output.trans h.grown.output, Nat.le_trans h.grown.size hb.size, fun k hk hne => (hb.block k (Nat.lt_of_lt_of_le hk h.grown.size)).trans (h.grown.block k hk hne)⟩, h.block⟩
theorem App.heap (h : App base e size w v w' v' n xs) : w.heap.size ≤ w'.heap.size := h.grown.size
end
theorem grown_below {a b : World} {B : Nat} {r : Option Nat} (h : a.grownBy b r) (hB : B ≤ a.heap.size) (hr : ∀ k, r = some k → B ≤ k) : Below B a b :=
  ⟨h.os, h.tape, h.output, h.size, fun k hk => h.block k (by omega) (fun e => by have := hr k e.symm; omega)⟩
/-- A slice value's length is its row's. -/
theorem own_length {w : World} {base n : Nat} {e : TypeId} {v : Value} {xs : List Value} (h : w.ownsRow base e 1 v n xs) : xs.length = n := by have := h.1; omega

/-- The call returns a slice that it has made. -/
def RetNew (e : TypeId) (size : Nat) (w : World) (n : Nat) (xs : List Value) (P : Option Addr → Prop) (en : Ending) (w' : World) : Prop :=
  ∃ A' c', en = .returned (.slice A' n c') ∧ App w.heap.size e size w (.slice none 0 0) w' (.slice A' n c') n xs ∧ P A'
/-- The call returns a slice that it has made, and more. -/
def RetNew2 (e : TypeId) (size : Nat) (w : World) (n : Nat) (xs : List Value) (r : Value) (P : Option Addr → Prop) (en : Ending) (w' : World) : Prop :=
  ∃ A' c', en = .returned (.tuple #[.slice A' n c', r]) ∧ App w.heap.size e size w (.slice none 0 0) w' (.slice A' n c') n xs ∧ P A'
/-- The call returns a slice that was appended to. -/
def RetApp (base : Nat) (e : TypeId) (size : Nat) (w : World) (v : Value) (n : Nat) (xs : List Value) (P : Option Addr → Prop) (en : Ending) (w' : World) : Prop :=
  ∃ A' c', en = .returned (.slice A' n c') ∧ App base e size w v w' (.slice A' n c') n xs ∧ P A'

theorem Rb.take {w : World} {B : Nat} {A : Option Addr} {zs : List Int} (h : Rb w B A zs) (k : Nat) : Rb w B A (zs.take k) := by
  have := Rd.take h k
  rwa [bv_take] at this
theorem Rb.drop {w : World} {B : Nat} {A : Option Addr} {zs : List Int} (h : Rb w B A zs) {k cap : Nat} (hc : zs.length ≤ cap) : Rb w B (if cap = k then A else A.map (·.add k)) (zs.drop k) := by
  have := Rd.drop (k := k) (cap := cap) h (by rw [bv_length]; exact hc)
  rwa [bv_drop] at this
/-- A string's bytes as numbers. -/
def nums (s : ByteArray) : List Int := s.data.toList.map fun c => (c.toNat : Int)
theorem nums_len (s : ByteArray) : (nums s).length = s.size := by rw [nums, List.length_map, Array.length_toList]; rfl
theorem nums_get {s : ByteArray} {k : Nat} (h : k < s.size) : (nums s)[k]? = some ((s[k]'h).toNat : Int) := by
  have h' : k < s.data.size := h
  rw [nums, List.getElem?_map, Array.getElem?_toList, Array.getElem?_eq_getElem h']
  rfl
theorem nums_byt (s : ByteArray) : Byt (nums s) := by
  intro x hx
  obtain ⟨c, _, rfl⟩ := List.mem_map.1 hx
  have := c.toNat_lt
  omega
theorem strOf_nums (s : ByteArray) : strOfNums (nums s) = s := by
  apply ByteArray.ext
  apply Array.ext'
  rw [strOfNums_data, nums, List.map_map]
  conv => rhs; rw [← List.map_id s.data.toList]
  apply List.map_congr_left
  intro c _
  simp
theorem nums_strOf {zs : List Int} (h : Byt zs) : nums (strOfNums zs) = zs := by
  unfold nums
  rw [strOfNums_data, List.map_map]
  conv => rhs; rw [← List.map_id zs]
  apply List.map_congr_left
  intro x hx
  have := h x hx
  simp [UInt8.toNat_ofNat']
  omega
theorem nums_inj {s t : ByteArray} (h : nums s = nums t) : s = t := by rw [← strOf_nums s, ← strOf_nums t, h]

/-- Two slices whose cells lie in two blocks. -/
def Sep (A A1 : Option Addr) : Prop := ∀ a b, A = some a → A1 = some b → a.block ≠ b.block
theorem Sep.symm {A A1 : Option Addr} (h : Sep A A1) : Sep A1 A := fun a b ha hb e => h b a hb ha e.symm
theorem Sep.none_left {A : Option Addr} : Sep none A := fun _ _ h => by cases h
theorem Sep.none_right {A : Option Addr} : Sep A none := fun _ _ _ h => by cases h
/-- What lies below the base of a row lies in another block than the row. -/
theorem Sep.of_own {w : World} {base n c size B : Nat} {e : TypeId} {A A1 : Option Addr} {xs : List Value} (h : w.ownsRow base e size (.slice A n c) n xs) (h1 : ∀ a, A1 = some a → a.block < B) (hB : B ≤ base) : Sep A A1 := fun a b ha hb e => by
  subst ha
  have := (h.lt a.block rfl).1
  have := h1 b hb
  omega
theorem Rd.apart {w w' : World} {B n c : Nat} {A A1 : Option Addr} {xs : List Value} (h : Rd w B A1 xs) (hB : B ≤ w.heap.size) (hg : w.grownBy w' (Value.slice A n c).ownBlock) (hs : Sep A A1) : Rd w' B A1 xs := fun hn => by
  obtain ⟨b, o, rfl, hb, hc⟩ := h hn
  refine ⟨b, o, rfl, hb, fun j u hu => ?_⟩
  rw [World.cell?_of_block (w := w) (a := ⟨b, o + j, none⟩) (hg.block b (by omega) ?_)]
  · exact hc j u hu
  · intro e
    cases A with
    | none => simp [Value.ownBlock] at e
    | some a =>
      simp [Value.ownBlock] at e
      exact hs a _ rfl rfl e.symm

/-- A slice that was made, as its readers want it. -/
theorem App.rd {ty : TypeId} {w w' : World} {A : Option Addr} {n c base : Nat} {v : Value} {xs : List Value} (h : App base ty 1 w v w' (.slice A n c) n xs) : Rd w' w'.heap.size A xs := Rd.of_own h.own
theorem App.cap {ty : TypeId} {w w' : World} {A : Option Addr} {n c base : Nat} {v : Value} {xs : List Value} (h : App base ty 1 w v w' (.slice A n c) n xs) : n ≤ c := by
  rcases h.own.2 with ⟨h1, h2⟩ | ⟨_, _, _, h1, _, _, h2, _⟩
  · omega
  · injection h1 with _ _ h3; omega
theorem App.lo {ty : TypeId} {size : Nat} {w w' : World} {A : Option Addr} {n c : Nat} {xs : List Value} (h : App w.heap.size ty size w (.slice none 0 0) w' (.slice A n c) n xs) : ∀ a, A = some a → w.heap.size ≤ a.block ∧ a.block < w'.heap.size := fun a ha => by
  subst ha
  exact h.own.lt a.block rfl

/-! ### 'string(b)' -/
theorem Rb.str {P : Program} {w : World} {B : Nat} {A : Option Addr} {zs : List Int} (h : Rb w B A zs) {src e dst : TypeId} (hs : P.underlying src = some (.slice e)) (he : P.underlying e = some (.int .u8)) (hd : P.underlying dst = some .string) (c : Nat) :
    (convert src dst (.slice A zs.length c)).run P w = .ok (.string (strOfNums zs)) w := by
  by_cases hz : zs = []
  · subst hz
    cases A with
    | none => exact run_convert_bytes_nil w src e hs he 0 c dst hd
    | some a =>
      rw [run_convert_bytes_string w src dst e _ _ c hs he hd]
      simp [Conv.bytesToString, loadCells]
      rfl
  · obtain ⟨b, o, rfl, hb, hc⟩ := h (by simpa [bv] using hz)
    refine run_convert_bytes_arg w src e hs he b o zs.length c zs rfl (fun i hi => ?_) dst hd
    rw [hc i _ (bv_get (List.getElem?_eq_getElem hi))]
    simp [List.getD, List.getElem?_eq_getElem hi]
end Go.Proofs.Ytohnpogoldbplaa

/- Lists of bytes: equal, below; slices of bytes against nil; append of bytes. -/
namespace Go.Proofs.Ytohnpogoldbplaa
open Go.RowKit

/-- The test of two lists of bytes, opaque to the walk. -/
def eqb (xs ys : List Int) : Bool := decide (xs = ys)
theorem eqb_true {xs ys : List Int} : eqb xs ys = true ↔ xs = ys := by simp [eqb]
theorem take_snoc {α : Type} {l : List α} {k : Nat} {x : α} (h : l[k]? = some x) : l.take (k + 1) = l.take k ++ [x] := by
  rw [List.take_add_one, h]; rfl

/-- Is a list of bytes below another one, in order? -/
def ltb : List Int → List Int → Bool
  | _, [] => false
  | [], _ :: _ => true
  | x :: xs, y :: ys => decide (x < y) || (decide (x = y) && ltb xs ys)
theorem ltb_str : ∀ {xs ys : List Int}, Byt xs → Byt ys → Op.bytesLess (strOfNums xs).toList (strOfNums ys).toList = ltb xs ys := by
  intro xs ys hx hy
  rw [ByteArray.toList_eq, ByteArray.toList_eq, strOfNums_data, strOfNums_data]
  induction xs generalizing ys with
  | nil => cases ys <;> rfl
  | cons x xs ih =>
    cases ys with
    | nil => rfl
    | cons y ys =>
      obtain ⟨a, b⟩ := hx x (by simp)
      obtain ⟨c, d⟩ := hy y (by simp)
      have h1 : (UInt8.ofNat x.toNat < UInt8.ofNat y.toNat) = (x < y) := by
        rw [UInt8.lt_iff_toNat_lt, UInt8.toNat_ofNat', UInt8.toNat_ofNat', Nat.mod_eq_of_lt (by omega), Nat.mod_eq_of_lt (by omega)]
        exact propext ⟨fun h => by omega, fun h => by omega⟩
      have h2 : (UInt8.ofNat x.toNat == UInt8.ofNat y.toNat) = decide (x = y) := by
        rw [Bool.eq_iff_iff, beq_iff_eq, decide_eq_true_iff]
        refine ⟨fun h => ?_, fun h => by rw [h]⟩
        have h := congrArg UInt8.toNat h
        rw [UInt8.toNat_ofNat', UInt8.toNat_ofNat', Nat.mod_eq_of_lt (by omega), Nat.mod_eq_of_lt (by omega)] at h
        omega
      simp only [List.map_cons, Op.bytesLess, ltb, h1, h2]
      rw [ih (fun z hz => hx z (by simp [hz])) (fun z hz => hy z (by simp [hz]))]

@[go_sem] theorem nil_eq_bytes (W : World) (a : Option Addr) (n c n' c' : Nat) : (binOp .eql 28 (.slice a n c) (.slice none n' c')).run Try.prog W = .ok (.bool a.isNone) W :=
  Lib.run_eql_slice_nil W _ _ a n c n' c' Try.underlying28
@[go_sem] theorem nil_ne_bytes (W : World) (a : Option Addr) (n c n' c' : Nat) : (binOp .neq 28 (.slice a n c) (.slice none n' c')).run Try.prog W = .ok (.bool (!a.isNone)) W :=
  run_neq_slice_nil_any W _ _ a n c n' c' Try.underlying28
theorem u8info : (Try.prog.info? 5).map (fun i => (i.zero, i.size, i.bytes)) = some (some (.int .u8 0), 1, 1) := by kernel_rfl

/-- append of bytes onto a row of the call's own. -/
theorem wpList_appb (w : World) {ops : Array Oper} {rest : List Oper} {o : Oper} {a : Act} {Q : Exit → Act → World → Prop} (hgd : o.guard = none) (s x : Operand)
    (ho : o.op = .call { callee := .builtin .append, args := #[s, x], argTypes := #[28, 28] })
    (base : Nat) (v : Value) (n : Nat) (xs : List Int) (hs : a.eval s = v) (hown : w.ownsRow base 5 1 v n (bv xs))
    (B : Nat) (A : Option Addr) (m c : Nat) (news : List Int) (hx : a.eval x = .slice A m c) (hl : news.length = m) (hr : Rb w B A news)
    (hbytes : n + m ≤ 140737488355328) (hbase : base ≤ w.heap.size)
    (h : ∀ A' c' w', App base 5 1 w v w' (.slice A' (n + m) c') (n + m) (bv (xs ++ news)) → (A' = none → v = .slice none 0 0 ∧ m = 0) → wpList Try.prog ops Q rest (a.put o.dst (.slice A' (n + m) c')) w') : wpList Try.prog ops Q (o :: rest) a w := by
  obtain ⟨i0, hi0, hz0, hz1, hz2⟩ := info_parts u8info
  refine wpList_app w hgd s x _ ho base 5 i0 _ 1 1 Try.underlying28 hi0 hz0 hz1 hz2 rfl (by omega) v n (bv xs) hs hown B A m c (bv news) hx (by rw [bv_length]; omega) hr (bv_one news) (by simp only [maxLen]; omega) (by omega) hbase ?_
  intro A' c' w' h1 h2 h3 h4
  rw [← bv_append] at h1
  exact h A' c' w' ((App.refl hown).step h1 h2 h3) h4
end Go.Proofs.Ytohnpogoldbplaa

/- The contract of bytes.Clone. -/
namespace Go.Proofs.Ytohnpogoldbplaa
open Go.RowKit

set_option maxHeartbeats 400000 in
/-- bytes.Clone: nil of nil; else the same bytes in a row that the call has made. -/
theorem bytesClone {A : Option Addr} {c B n : Nat} {xs : List Int} (w : World) (ha : Rb w B A xs) (hB : B ≤ w.heap.size) (hx : xs.length ≤ 140737488351232) (hc : A = none → xs = [] ∧ c = 0) (hn : xs.length = n) :
    Calls Try.prog 75 #[.slice A n c] w (RetNew 5 1 w n (bv xs) (fun A' => A' = none → A = none)) := by
  subst hn
  cases A with
  | none =>
    obtain ⟨rfl, rfl⟩ := hc rfl
    go_enter Try.func75, Try.ntmps75
    go_wp2
    go_ret
    exact ⟨none, 0, rfl, App.refl (World.ownsRow_nil _ _ _ _), by simp⟩
  | some a =>
    go_enter Try.func75, Try.ntmps75
    go_wp2_with (at_builtin; go_loud (refine wpList_appb _ rfl (.tmp 5) (.tmp 6) rfl w.heap.size _ 0 [] rfl (World.ownsRow_lit w #[] 0 (Nat.le_refl _) (by simp [maxLen]) rfl) B _ xs.length c xs rfl rfl (ha.alloc hB _) (by omega) (by simp) ?_))
    intro A' c' w' happ hne
    go_wp2
    go_ret
    exact ⟨A', c', rfl, happ.fresh1, fun h => absurd h hne⟩
end Go.Proofs.Ytohnpogoldbplaa

/- The small functions on bytes that this seat has. -/

/- The plain mathematics of layer 1 (wire): no program in sight. -/
namespace Go.Proofs.Ytohnpogoldbplaa

/-- A short number's bytes. -/
def numEnc (x : Nat) : List Int := if x < 128 then [(x : Int)] else ((x % 128 + 128 : Nat) : Int) :: numEnc (x / 128)
termination_by x
decreasing_by omega
theorem numEnc_lt {x : Nat} (h : x < 128) : numEnc x = [(x : Int)] := by rw [numEnc, if_pos h]
theorem numEnc_ge {x : Nat} (h : 128 ≤ x) : numEnc x = ((x % 128 + 128 : Nat) : Int) :: numEnc (x / 128) := by rw [numEnc, if_neg (by omega)]
theorem numEnc_pos (x : Nat) : 0 < (numEnc x).length := by
  by_cases h : x < 128
  · rw [numEnc_lt h]; simp
  · rw [numEnc_ge (by omega)]; simp
theorem numEnc_len : ∀ (k x : Nat), x < 128 ^ k → 0 < k → (numEnc x).length ≤ k := by
  intro k
  induction k with
  | zero => intro x _ h; omega
  | succ k ih =>
    intro x hx _
    by_cases h : x < 128
    · rw [numEnc_lt h]; simp
    · rw [numEnc_ge (by omega)]
      have h1 : x / 128 < 128 ^ k := by
        rw [Nat.pow_succ] at hx
        omega
      have hk : 0 < k := by
        rcases Nat.eq_zero_or_pos k with rfl | h0
        · simp at hx; omega
        · exact h0
      have := ih (x / 128) h1 hk
      simp only [List.length_cons]
      omega
theorem numEnc_u64 {x : Nat} (h : x < 18446744073709551616) : (numEnc x).length ≤ 10 :=
  numEnc_len 10 x (Nat.lt_of_lt_of_le h (by decide)) (by omega)
theorem numEnc_byt (x : Nat) : Byt (numEnc x) := by
  induction x using numEnc.induct with
  | case1 x h => rw [numEnc_lt h]; intro y hy; simp at hy; omega
  | case2 x h ih =>
    rw [numEnc_ge (by omega)]
    intro y hy
    rcases List.mem_cons.1 hy with rfl | hy
    · omega
    · exact ih y hy

/-- A number's eight bytes, in order. -/
def ordTo (x : Nat) : Nat → List Int
  | 0 => []
  | k + 1 => ((x / 256 ^ k % 256 : Nat) : Int) :: ordTo x k
def ordEnc (x : Nat) : List Int := ordTo x 8
theorem ordTo_len (x k : Nat) : (ordTo x k).length = k := by induction k with | zero => rfl | succ k ih => simp [ordTo, ih]
theorem ordEnc_len (x : Nat) : (ordEnc x).length = 8 := ordTo_len x 8
theorem ordTo_byt (x k : Nat) : Byt (ordTo x k) := by
  induction k with
  | zero => intro y hy; simp [ordTo] at hy
  | succ k ih =>
    intro y hy
    rcases List.mem_cons.1 hy with rfl | hy
    · omega
    · exact ih y hy
theorem ordEnc_byt (x : Nat) : Byt (ordEnc x) := ordTo_byt x 8

/-- A text's bytes in order, without the end. -/
def txtTo (s : List Int) : List Int := s.flatMap fun c => if c = 0 then [0, 255] else [c]
def txtEnc (s : List Int) : List Int := txtTo s ++ [0, 1]
theorem txtTo_snoc0 (s : List Int) : txtTo (s ++ [0]) = txtTo s ++ [0] ++ [255] := by simp [txtTo]
theorem txtTo_snoc (s : List Int) {c : Int} (h : c ≠ 0) : txtTo (s ++ [c]) = txtTo s ++ [c] := by simp [txtTo, h]
theorem txtTo_len (s : List Int) : (txtTo s).length ≤ 2 * s.length := by
  induction s with
  | nil => simp [txtTo]
  | cons c s ih =>
    have : txtTo (c :: s) = (if c = 0 then [0, 255] else [c]) ++ txtTo s := rfl
    rw [this, List.length_append, List.length_cons]
    split <;> simp <;> omega
theorem txtTo_byt {s : List Int} (h : Byt s) : Byt (txtTo s) := by
  intro y hy
  obtain ⟨c, hc, hy⟩ := List.mem_flatMap.1 hy
  have := h c hc
  split at hy
  · simp at hy; omega
  · simp at hy; omega

/-- How many bytes are left of the first n, when the 255s at their end are gone. -/
def cutN (p : List Int) : Nat → Nat
  | 0 => 0
  | n + 1 => if p[n]? = some 255 then cutN p n else n + 1
theorem cutN_le (p : List Int) (n : Nat) : cutN p n ≤ n := by
  induction n with
  | zero => simp [cutN]
  | succ n ih => rw [cutN]; split <;> omega
theorem cutN_last (p : List Int) (n : Nat) (h : 0 < cutN p n) : p[cutN p n - 1]? ≠ some 255 := by
  induction n with
  | zero => simp [cutN] at h
  | succ n ih =>
    by_cases hc : p[n]? = some 255
    · rw [cutN, if_pos hc] at h ⊢; exact ih h
    · rw [cutN, if_neg hc]; simpa using hc
theorem cutN_rest (p : List Int) (n j : Nat) (h : cutN p n ≤ j) (hj : j < n) : p[j]? = some 255 := by
  induction n with
  | zero => omega
  | succ n ih =>
    by_cases hc : p[n]? = some 255
    · rw [cutN, if_pos hc] at h
      by_cases hjn : j = n
      · rw [hjn]; exact hc
      · exact ih h (by omega)
    · rw [cutN, if_neg hc] at h; omega
/-- The least bytes above all that begin with p. -/
def aftOf (p : List Int) : List Int := p.take (cutN p p.length - 1) ++ [(p.getD (cutN p p.length - 1) 0) + 1]
theorem aftOf_len (p : List Int) (h : 0 < cutN p p.length) : (aftOf p).length = cutN p p.length := by
  have := cutN_le p p.length
  simp [aftOf]; omega

/-- The number that stands in some bytes, in order. -/
def ordVal (l : List Int) : Nat := l.foldl (fun a c => a * 256 + c.toNat) 0
theorem ordVal_snoc (l : List Int) (c : Int) : ordVal (l ++ [c]) = ordVal l * 256 + c.toNat := by simp [ordVal]
theorem ordVal_lt : ∀ (k : Nat) (l : List Int), Byt l → l.length = k → ordVal l < 256 ^ k := by
  intro k
  induction k with
  | zero => intro l _ h; obtain rfl := List.eq_nil_of_length_eq_zero h; simp [ordVal]
  | succ k ih =>
    intro l hb h
    obtain ⟨a, c, rfl⟩ : ∃ a c, l = a ++ [c] := by
      have hne : l ≠ [] := by rintro rfl; simp at h
      exact ⟨l.dropLast, l.getLast hne, (List.dropLast_concat_getLast hne).symm⟩
    have h1 := ih a (fun x hx => hb x (by simp [hx])) (by simpa using h)
    have h2 := hb c (by simp)
    rw [ordVal_snoc, Nat.pow_succ]
    omega
theorem ordTo_val (x : Nat) : ∀ (k : Nat), ordVal (ordTo x k) = x % 256 ^ k := by
  have gen : ∀ (k : Nat) (a : Nat), (ordTo x k).foldl (fun a c => a * 256 + c.toNat) a = a * 256 ^ k + x % 256 ^ k := by
    intro k
    induction k with
    | zero => intro a; simp [ordTo, Nat.mod_one]
    | succ k ih =>
      intro a
      have hp : 0 < 256 ^ k := Nat.pow_pos (by omega)
      have e : x % 256 ^ (k + 1) = (x / 256 ^ k % 256) * 256 ^ k + x % 256 ^ k := by
        rw [Nat.pow_succ, Nat.mod_mul, Nat.add_comm, Nat.mul_comm]
      simp only [ordTo, List.foldl_cons]
      rw [ih, Int.toNat_natCast, e, Nat.add_mul, Nat.pow_succ, Nat.mul_assoc, Nat.mul_comm 256 (256 ^ k)]
      omega
  intro k
  have := gen k 0
  simpa [ordVal] using this

/-- What a text in order says from place i on: the text and the place behind it; or the error. 12: more is wanted; 4: no such text. -/
def txtRead (b : List Int) (i : Nat) (out : List Int) : Nat → (List Int × Nat) ⊕ Nat
  | 0 => .inr 12
  | f + 1 => match b[i]? with
    | none => .inr 12
    | some x => if x ≠ 0 then txtRead b (i + 1) (out ++ [x]) f else
      match b[i + 1]? with
      | none => .inr 12
      | some y => if y = 1 then .inl (out, i + 2) else if y = 255 then txtRead b (i + 2) (out ++ [0]) f else .inr 4
theorem txtRead_end (b out : List Int) (i f : Nat) (h : b.length ≤ i) : txtRead b i out f = .inr 12 := by
  cases f with
  | zero => rfl
  | succ f => rw [txtRead, List.getElem?_eq_none h]
theorem txtRead_fuel (b : List Int) : ∀ (f g i : Nat) (out : List Int), b.length ≤ i + f → b.length ≤ i + g → txtRead b i out f = txtRead b i out g := by
  intro f
  induction f with
  | zero => intro g i out h1 h2; rw [txtRead_end b out i 0 (by omega), txtRead_end b out i g (by omega)]
  | succ f ih =>
    intro g i out h1 h2
    cases g with
    | zero => rw [txtRead_end b out i _ (by omega), txtRead_end b out i _ (by omega)]
    | succ g =>
      rw [txtRead, txtRead]
      cases b[i]? with
      | none => rfl
      | some x =>
        simp only
        split
        · exact ih g (i + 1) _ (by omega) (by omega)
        · cases b[i + 1]? with
          | none => rfl
          | some y =>
            simp only
            split
            · rfl
            · split
              · exact ih g (i + 2) _ (by omega) (by omega)
              · rfl
/-- From place k on. -/
def txtR (b : List Int) (k : Nat) (out : List Int) : (List Int × Nat) ⊕ Nat := txtRead b k out (b.length - k)
theorem txtR_over {b out : List Int} {k : Nat} (h : b.length ≤ k) : txtR b k out = .inr 12 := txtRead_end b out k _ h
theorem lt_of_get {b : List Int} {k : Nat} {x : Int} (h : b[k]? = some x) : k < b.length := (List.getElem?_eq_some_iff.1 h).1
theorem txtR_x {b out : List Int} {k : Nat} {x : Int} (h : b[k]? = some x) (hx : x ≠ 0) : txtR b k out = txtR b (k + 1) (out ++ [x]) := by
  have := lt_of_get h
  rw [txtR, txtR, show b.length - k = (b.length - (k + 1)) + 1 from by omega, txtRead, h]
  simp [hx]
theorem txtR_more {b out : List Int} {k : Nat} (h : b[k]? = some 0) (h1 : k + 1 = b.length) : txtR b k out = .inr 12 := by
  rw [txtR, show b.length - k = 0 + 1 from by omega, txtRead, h, List.getElem?_eq_none (show b.length ≤ k + 1 from by omega)]
  simp
theorem txtR_end {b out : List Int} {k : Nat} (h : b[k]? = some 0) (h1 : b[k + 1]? = some 1) : txtR b k out = .inl (out, k + 2) := by
  have := lt_of_get h
  rw [txtR, show b.length - k = (b.length - (k + 1)) + 1 from by omega, txtRead, h, h1]
  simp
theorem txtR_zero {b out : List Int} {k : Nat} (h : b[k]? = some 0) (h1 : b[k + 1]? = some 255) : txtR b k out = txtR b (k + 2) (out ++ [0]) := by
  have := lt_of_get h
  rw [txtR, txtR, show b.length - k = (b.length - (k + 1)) + 1 from by omega, txtRead, h, h1]
  simp
  exact txtRead_fuel b _ _ _ _ (by omega) (by omega)
theorem txtR_bad {b out : List Int} {k : Nat} {y : Int} (h : b[k]? = some 0) (h1 : b[k + 1]? = some y) (hy1 : y ≠ 1) (hy2 : y ≠ 255) : txtR b k out = .inr 4 := by
  have := lt_of_get h
  rw [txtR, show b.length - k = (b.length - (k + 1)) + 1 from by omega, txtRead, h, h1]
  simp [hy1, hy2]
/-- The whole. -/
def txtOf (b : List Int) : (List Int × Nat) ⊕ Nat := txtR b 0 []
end Go.Proofs.Ytohnpogoldbplaa

/- (wire.Number alone) Contracts of wire's and bootprintref01's writers: Number, Ordered, OrderedText, Piece, Size. -/
namespace Go.Proofs.Ytohnpogoldbplaa
open Go.RowKit

theorem or128 : ∀ n : Nat, n < 256 → bits .or .u8 (n : Int) 128 = ((n % 128 + 128 : Nat) : Int) := by decide +kernel
theorem or128' (y : Nat) : bits .or .u8 ((y : Int) % 256) 128 = ((y % 128 + 128 : Nat) : Int) := by
  have h := or128 (y % 256) (by omega)
  rw [show ((y : Int) % 256) = ((y % 256 : Nat) : Int) from by omega, h]
  omega

set_option maxHeartbeats 400000 in
theorem wireNumber {base A c n x} {xs : List Int} (w : World) (ho : w.ownsRow base 5 1 (.slice A n c) n (bv xs)) (hb : base ≤ w.heap.size) (hx : x < 18446744073709551616) (hn : n + 10 ≤ 140737488355328) :
    Calls Try.prog 39 #[.slice A n c, .int .u64 (x : Nat)] w (RetApp base 5 1 w (.slice A n c) (n + (numEnc x).length) (bv (xs ++ numEnc x)) (· ≠ none)) := by
  have hl10 := numEnc_u64 hx
  go_enter Try.func39, Try.ntmps39
  go_wp2
  go_loopw [0, 1] (fun v y wr => ∃ (A' : Option Addr) (c' m y' : Nat) (ys : List Int), v = .slice A' m c' ∧ y = .int .u64 (y' : Nat) ∧ y' < 18446744073709551616 ∧ App base 5 1 w (.slice A n c) wr (.slice A' m c') m (bv ys) ∧ m + (numEnc y').length = n + (numEnc x).length ∧ ys ++ numEnc y' = xs ++ numEnc x) (fun _ y _ => (intOf y).toNat)
  case atStart => exact ⟨A, c, n, x, xs, rfl, rfl, hx, App.refl ho, rfl, rfl⟩
  case round =>
    obtain ⟨A', c', m, y, ys, rfl, rfl, hy, happ, hm, hys⟩ := hrel
    have HM := Lib.hid hm
    have HY := Lib.hid hys
    have hpos := numEnc_pos y
    have hmb : m + 1 ≤ 140737488355328 := by omega
    clear hm hys
    by_cases hlt : y < 128
    · have hlt' : ¬ ((128 : Int) ≤ (y : Int)) := by omega
      go_wp2_with (at_builtin; go_loud (refine wpList_appb _ rfl (.tmp 15) (.tmp 18) rfl base _ m ys rfl (happ.own.alloc _) _ _ 1 1 [(y : Int)] rfl rfl (Rd.lit _ _ _) hmb (by have := happ.heap; simp; omega) ?_))
      intro A2 c2 w2 h2 hne
      go_wp2
      go_ret
      have e1 : m + 1 = n + (numEnc x).length := by rw [← HM.out, numEnc_lt hlt]; rfl
      have e2 : ys ++ [(y : Int)] = xs ++ numEnc x := by rw [← HY.out, numEnc_lt hlt]
      exact ⟨A2, c2, by rw [← e1]; rfl, by rw [← e1, ← e2]; exact (happ.alloc _).trans h2, hne⟩
    · have hge : ((128 : Int) ≤ (y : Int)) := by omega
      obtain ⟨z, hz⟩ : ∃ z : Int, z = ((y % 128 + 128 : Nat) : Int) := ⟨_, rfl⟩
      have hor : bits .or .u8 ((y : Int) % 256) 128 = z := by rw [or128' y, hz]
      have HZ := Lib.hid hz
      clear hz
      go_wp2_with (at_builtin; go_loud (refine wpList_appb _ rfl (.tmp 7) (.tmp 11) rfl base _ m ys rfl (happ.own.alloc _) _ _ 1 1 [z] rfl rfl (Rd.lit _ _ _) hmb (by have := happ.heap; simp; omega) ?_))
      intro A2 c2 w2 h2 hne
      go_wp2
      go_roundw
      case rel =>
        exact ⟨A2, c2, m + 1, y / 128, ys ++ [z], rfl, by go_num, by omega, (happ.alloc _).trans h2, by rw [← HM.out, numEnc_ge (x := y) (by omega)]; simp; omega, by rw [← HY.out, numEnc_ge (x := y) (by omega), HZ.out]; simp⟩
      case measure => simp [intOf]; omega
end Go.Proofs.Ytohnpogoldbplaa

/- (wire.Ordered, wire.Piece alone) Contracts of wire's writers. -/
namespace Go.Proofs.Ytohnpogoldbplaa
open Go.RowKit

theorem shr_byte {x : Nat} {e : Nat} (k : Nat) (h : e = 8 * k) : (x : Int) / 2 ^ e % 256 = ((x / 256 ^ k % 256 : Nat) : Int) := by
  subst h
  have e : (2 : Nat) ^ (8 * k) = 256 ^ k := by rw [Nat.pow_mul]
  rw [← e]
  simp

set_option maxHeartbeats 400000 in
theorem wireOrdered {base A c n x} {xs : List Int} (w : World) (ho : w.ownsRow base 5 1 (.slice A n c) n (bv xs)) (hb : base ≤ w.heap.size) (hx : x < 18446744073709551616) (hn : n + 10 ≤ 140737488355328) :
    Calls Try.prog 37 #[.slice A n c, .int .u64 (x : Nat)] w (RetApp base 5 1 w (.slice A n c) (n + 8) (bv (xs ++ ordEnc x)) (fun _ => True)) := by
  go_enter Try.func37, Try.ntmps37
  go_wp2
  go_loopw [0, 5] (fun v i wr => ∃ (A' : Option Addr) (c' m k : Nat) (j : Int) (ys : List Int), k ≤ 8 ∧ v = .slice A' m c' ∧ i = .int .i64 j ∧ 8 * (k : Int) - 8 ≤ j ∧ j ≤ 8 * (k : Int) - 8 ∧ App base 5 1 w (.slice A n c) wr (.slice A' m c') m (bv ys) ∧ m + k = n + 8 ∧ ys ++ ordTo x k = xs ++ ordEnc x) (fun _ i _ => (intOf i + 8).toNat)
  case atStart => exact ⟨A, c, n, 8, _, xs, by omega, rfl, rfl, by omega, by omega, App.refl ho, rfl, rfl⟩
  case round =>
    obtain ⟨A', c', m, k, j, ys, hk, rfl, rfl, hj1, hj2, happ, hm, hys⟩ := hrel
    have HM := Lib.hid hm
    have HY := Lib.hid hys
    have hmb : m + 1 ≤ 140737488355328 ∨ k = 0 := by omega
    clear hm hys
    cases k with
    | zero =>
      have hj : j < 0 := by omega
      go_wp2
      go_ret
      have e1 : m = n + 8 := HM.out
      have e2 : ys = xs ++ ordEnc x := by rw [← HY.out]; simp [ordTo]
      exact ⟨A', c', by rw [← e1]; rfl, by rw [← e1, ← e2]; exact happ, trivial⟩
    | succ k =>
      have hj : 0 ≤ j := by omega
      have hmb' : m + 1 ≤ 140737488355328 := by omega
      clear hmb
      obtain ⟨z, hz⟩ : ∃ z : Int, z = ((x / 256 ^ k % 256 : Nat) : Int) := ⟨_, rfl⟩
      have hval : (x : Int) / 2 ^ (j).toNat % 256 = z := by rw [hz]; exact shr_byte k (by omega)
      have HZ := Lib.hid hz
      clear hz
      go_wp2_with (at_builtin; go_loud (refine wpList_appb _ rfl (.tmp 10) (.tmp 15) rfl base _ m ys rfl (happ.own.alloc _) _ _ 1 1 [z] rfl rfl (Rd.lit _ _ _) hmb' (by have := happ.heap; simp; omega) ?_))
      intro A2 c2 w2 h2 hne
      go_wp2
      go_roundw
      case rel =>
        exact ⟨A2, c2, m + 1, k, j - 8, ys ++ [z], by omega, rfl, by go_num, by omega, by omega, (happ.alloc _).trans h2, by have := HM.out; omega, by rw [← HY.out, HZ.out]; simp [ordTo]⟩
      case measure => simp [intOf]; omega

set_option maxHeartbeats 400000 in
theorem wirePiece {base A c n A1 c1 B m} {xs zs : List Int} (w : World) (ho : w.ownsRow base 5 1 (.slice A n c) n (bv xs)) (hb : base ≤ w.heap.size) (hr : Rb w B A1 zs) (hB : B ≤ w.heap.size) (hs : zs = [] ∨ Sep A A1) (hn : n + 1048592 ≤ 140737488355328) (hz : zs.length ≤ 1048576) (hm : zs.length = m) :
    Calls Try.prog 74 #[.slice A n c, .slice A1 m c1] w fun e w' => ∃ A' c', e = .returned (.tuple #[.slice A' (n + (numEnc zs.length).length + zs.length) c', .int .i64 0]) ∧ App base 5 1 w (.slice A n c) w' (.slice A' (n + (numEnc zs.length).length + zs.length) c') (n + (numEnc zs.length).length + zs.length) (bv (xs ++ (numEnc zs.length ++ zs))) := by
  subst hm
  have hx : zs.length < 18446744073709551616 := by omega
  have hl := numEnc_u64 hx
  go_enter Try.func74, Try.ntmps74
  go_wp2_with fail
  refine (wireNumber w ho hb hx (by omega)).mono ?_
  rintro e w1 ⟨A', c', rfl, happ, hne⟩
  have hr1 : Rb w1 B A1 zs := by
    rcases hs with h0 | hs
    · rw [h0]; exact Rd.nil
    · exact hr.apart hB happ.grown hs
  go_wp2_with (at_builtin; go_loud (refine wpList_appb _ rfl (.tmp 13) (.tmp 14) rfl base _ _ _ rfl happ.own B A1 zs.length c1 zs rfl rfl hr1 (by omega) (by have := happ.heap; omega) ?_))
  intro A2 c2 w2 h2 hne2
  go_wp2
  go_ret2
  exact ⟨A2, c2, rfl, happ.trans h2⟩

set_option maxHeartbeats 400000 in
theorem wirePieceLong {A c n A1 c1 m} (w : World) (hm : m ≤ maxLen) (hz : 1048576 < m) :
    Calls Try.prog 74 #[.slice A n c, .slice A1 m c1] w fun e w' => e = .returned (.tuple #[.slice none 0 0, .int .i64 3]) ∧ w = w' := by
  unfold maxLen at hm
  go_enter Try.func74, Try.ntmps74
  go_wp2
  go_ret2
  exact ⟨rfl, rfl⟩

end Go.Proofs.Ytohnpogoldbplaa
