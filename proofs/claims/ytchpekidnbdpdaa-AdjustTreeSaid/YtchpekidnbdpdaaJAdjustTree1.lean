/- Texts of the proof of AdjustTreeSaid, joined: Lib Byt0 SpM0 Cel SpP0 LoadK SoA Stw. -/
import Derived.WalkKit
import Derived.WalkSpells
import Derived.WalkLawsBesides
import Derived.Handy
import Derived.Below
import Derived.Laws.OwnMore
import Derived.Deep.AppendLies
import Derived.Deep.Draws
import Derived.Deep.QuietTactic
import Derived.BigQuiet
import Derived.Maps.AppendAt
import Derived.RegionTactic
import Derived.OwnWalk
import Derived.Lib.Hide
import Derived.Laws.BytesArg
import Derived.Test.YtchpekidnbdpdaaProg
import Derived.Lib.SliceRun
import Derived.Deep.RegionHeld3
import Derived.WalkMore
import Derived.StillTailTactics
import Derived.Laws.ResultCell
import Derived.Laws.Rows
import Derived.Laws.Tables
import Derived.Deep.Cut
/- Words for memory that all texts of this seat use: cells that read as a list, a block that is known whole, an append onto a row of the call's own. Plain lemmas over any program. -/
namespace Go.Proofs.Ytchpekidnbdpdaa
open Go.RowKit

/-- From address A on, below block B, lie the cells xs. -/
def Rd (w : World) (B : Nat) (A : Option Addr) (xs : List Value) : Prop :=
  xs ≠ [] → ∃ b o, A = some ⟨b, o, none⟩ ∧ b < B ∧ ∀ j u, xs[j]? = some u → w.cell? ⟨b, o + j, none⟩ = some u

section
variable {w w' : World} {B B' : Nat} {A : Option Addr} {xs : List Value}
theorem Rd.nil : Rd w B A [] := fun h => absurd rfl h
theorem Rd.get {k : Nat} {u : Value} (h : Rd w B A xs) (hk : xs[k]? = some u) : ∃ b o, A = some ⟨b, o, none⟩ ∧ b < B ∧ w.cell? ⟨b, o + k, none⟩ = some u := by
  obtain ⟨b, o, e, hb, hc⟩ := h (by rintro rfl; simp at hk)
  exact ⟨b, o, e, hb, hc k u hk⟩
theorem Rd.keep (h : Rd w B A xs) (hk : ∀ p : Addr, p.block < B → w'.cell? p = w.cell? p) : Rd w' B A xs := fun hn => by
  obtain ⟨b, o, e, hb, hc⟩ := h hn
  exact ⟨b, o, e, hb, fun j u hu => (hk ⟨b, o + j, none⟩ hb).trans (hc j u hu)⟩
theorem Rd.more (h : Rd w B A xs) (hB : B ≤ B') : Rd w B' A xs := fun hn => by
  obtain ⟨b, o, e, hb, hc⟩ := h hn
  exact ⟨b, o, e, by omega, hc⟩
theorem Rd.below (h : Rd w B A xs) (hb : Below B w w') : Rd w' B A xs := h.keep fun _ hp => hb.cell hp
theorem Rd.drew (h : Rd w B A xs) : Rd w.drew B A xs := h
theorem Rd.drewN (h : Rd w B A xs) (k : Nat) : Rd (w.drewN k) B A xs := h
theorem Rd.alloc (h : Rd w B A xs) (hB : B ≤ w.heap.size) (o : Obj) : Rd (w.alloc o) B A xs := h.keep fun p hp => World.cell?_alloc_lt w o p (by omega)
theorem Rd.set (h : Rd w B A xs) {p : Addr} (hB : B ≤ p.block) (u : Value) : Rd (w.setCell p u) B A xs :=
  h.keep fun q hq => World.cell?_setCell_other w p q u (fun e => by subst e; omega)
theorem Rd.grown (h : Rd w B A xs) {row : Option Nat} (hg : w.grownBy w' row) (hB : B ≤ w.heap.size) (hr : ∀ g, row = some g → B ≤ g) : Rd w' B A xs :=
  h.keep fun p hp => World.cell?_of_block (hg.block p.block (by omega) (fun e => by have := hr _ e.symm; omega))
/-- The cells from k on. The address as the model writes it. -/
theorem Rd.drop (h : Rd w B A xs) {k cap : Nat} (hc : xs.length ≤ cap) : Rd w B (if cap = k then A else A.map (·.add k)) (xs.drop k) := fun hn => by
  have hl : k < xs.length := by
    rcases Nat.lt_or_ge k xs.length with h1 | h1
    · exact h1
    · exact absurd (List.drop_eq_nil_of_le h1) hn
  obtain ⟨b, o, rfl, hb, hcell⟩ := h (by rintro rfl; simp at hl)
  rw [if_neg (by omega)]
  refine ⟨b, o + k, by simp [Addr.add_lit], hb, fun j u hu => ?_⟩
  rw [Nat.add_assoc]
  exact hcell _ u (by rw [← hu, List.getElem?_drop])
theorem Rd.take (h : Rd w B A xs) (k : Nat) : Rd w B A (xs.take k) := fun hn => by
  obtain ⟨b, o, e, hb, hc⟩ := h (by rintro rfl; simp at hn)
  refine ⟨b, o, e, hb, fun j u hu => hc j u ?_⟩
  rw [List.getElem?_take] at hu
  split at hu
  · exact hu
  · cases hu
theorem Rd.of_own {base n c size : Nat} {e : TypeId} (h : w.ownsRow base e size (.slice A n c) n xs) : Rd w w.heap.size A xs := fun hn => by
  have hn0 : 0 < n := by
    rcases Nat.eq_zero_or_pos n with h0 | h0
    · exact absurd (List.eq_nil_of_length_eq_zero (by rw [h.1, h0, Nat.zero_mul])) hn
    · exact h0
  obtain ⟨g, cap, hv, _, hlt⟩ := h.form hn0
  have hA : A = some ⟨g, 0, none⟩ := by injection hv
  subst hA
  refine ⟨g, 0, rfl, hlt, fun j u hu => ?_⟩
  have := h.cells (g := g) rfl j u hu
  rwa [Addr.add_lit] at this
end

section
variable {w w' : World} {A : Option Addr} {xs : List Value}
/-- The same, the bound being the heap's own size. -/
theorem Rd.belowS (h : Rd w w.heap.size A xs) (hb : Below w.heap.size w w') : Rd w' w'.heap.size A xs := (h.below hb).more hb.size
theorem Rd.allocS (h : Rd w w.heap.size A xs) (o : Obj) : Rd (w.alloc o) (w.alloc o).heap.size A xs := (h.alloc (Nat.le_refl _) o).more (by simp)
theorem Rd.grownS {row : Option Nat} (h : Rd w w.heap.size A xs) (hg : w.grownBy w' row) (hs : ∀ a, A = some a → row ≠ some a.block) : Rd w' w'.heap.size A xs := fun hn => by
  obtain ⟨b, o, rfl, hb, hc⟩ := h hn
  exact ⟨b, o, rfl, Nat.lt_of_lt_of_le hb hg.size, fun j u hu => (World.cell?_of_block (a := ⟨b, o + j, none⟩) (hg.block b hb (fun e => hs _ rfl e.symm))).trans (hc j u hu)⟩
end
/-- A block that has just been laid. -/
theorem Rd.lit (w : World) (cs : Array Value) (t : TypeId) : Rd (w.alloc (.cells cs t)) (w.heap.size + 1) (some ⟨w.heap.size, 0, none⟩) cs.toList := fun _ =>
  ⟨w.heap.size, 0, rfl, by omega, fun j u hu => by
    rw [cell_of_row _ w.heap.size (0 + j) cs t (0, 0) (heap_alloc_new w _)]
    simpa using hu⟩

theorem Rd.lit' {w : World} {cs : Array Value} {t : TypeId} {g : Nat} (hg : w.heap.size = g) : Rd (w.alloc (.cells cs t)) (g + 1) (some ⟨g, 0, none⟩) cs.toList := by
  subst hg
  exact Rd.lit w cs t

/-- Block g is just the cells cs of element type t, none of them frozen. -/
def Bk (w : World) (g : Nat) (t : TypeId) (cs : Array Value) : Prop := w.heap[g]? = some (.cells cs t (0, 0))
section
variable {w w' : World} {g : Nat} {t : TypeId} {cs : Array Value}
theorem Bk.lt (h : Bk w g t cs) : g < w.heap.size := (Array.getElem?_eq_some_iff.1 h).1
theorem Bk.cell (h : Bk w g t cs) (i : Nat) : w.cell? ⟨g, i, none⟩ = cs[i]? := cell_of_row w g i cs t (0, 0) h
theorem Bk.frozen (h : Bk w g t cs) (i : Nat) : w.frozen? ⟨g, i, none⟩ = false := by
  unfold Bk at h
  simp [World.frozen?, h]
theorem Bk.new (w : World) (t : TypeId) (cs : Array Value) : Bk (w.alloc (.cells cs t)) w.heap.size t cs := heap_alloc_new w _
theorem Bk.drew (h : Bk w g t cs) : Bk w.drew g t cs := h
theorem Bk.drewN (h : Bk w g t cs) (n : Nat) : Bk (w.drewN n) g t cs := h
theorem Bk.alloc (h : Bk w g t cs) (o : Obj) : Bk (w.alloc o) g t cs := (Below.heap_alloc w o g h.lt).trans h
theorem Bk.set (h : Bk w g t cs) (i : Nat) (u : Value) : Bk (w.setCell ⟨g, i, none⟩ u) g t (cs.setIfInBounds i u) := by
  unfold Bk at h ⊢
  simp [World.setCell, Array.getElem?_modify, h]
theorem Bk.far (h : Bk w g t cs) {p : Addr} (hp : g ≠ p.block) (u : Value) : Bk (w.setCell p u) g t cs := (Below.heap_setCell w p u g hp).trans h
theorem Bk.below {B : Nat} (h : Bk w g t cs) (hb : Below B w w') (hg : g < B) : Bk w' g t cs := (hb.block g hg).trans h
theorem Bk.grown {row : Option Nat} (h : Bk w g t cs) (hb : w.grownBy w' row) (hg : some g ≠ row) : Bk w' g t cs := (hb.block g h.lt hg).trans h
end

theorem below_drewN {B : Nat} {a w : World} (h : Below B a w) (n : Nat) : Below B a (w.drewN n) := ⟨h.os, h.tape, h.output, h.size, h.block⟩
theorem below_all {a w : World} (h : ∃ n, w = a.drewN n) (B : Nat) : Below B a w := by obtain ⟨n, rfl⟩ := h; exact below_drewN (Below.refl _ _) n

/-! ### append of cells that read as a list (nil, empty or not) onto a row of the call's own -/
section
variable {P : Program} (w : World)
theorem run_app (base : Nat) (t ty e : TypeId) (i : TypeInfo) (z : Value) (size bytes : Nat) (ht : P.underlying t = some (.slice e)) (hi : P.info? e = some i) (hz : i.zero = some z)
    (hsize : i.size = size) (hby : i.bytes = bytes) (hzs : z.cells.size = size) (hsz : 0 < size)
    (v : Value) (n : Nat) (xs : List Value) (hown : w.ownsRow base e size v n xs)
    (B : Nat) (A : Option Addr) (m c : Nat) (news : List Value) (hl : news.length = m * size) (hr : Rd w B A news) (h1 : ∀ u ∈ news, u.oneCell' = true)
    (h63 : n + m ≤ maxLen) (hbytes : (n + m) * bytes ≤ 140737488355328) (hbase : base ≤ w.heap.size) :
    ∃ v' w', (Builtin.append_ #[t, t] ty #[v, .slice A m c]).run P w = .ok v' w' ∧ w'.ownsRow base e size v' (n + m) (xs ++ news) ∧ w.grownBy w' v.ownBlock ∧
      (v'.ownBlock = v.ownBlock ∨ v'.ownBlock = some w.heap.size) ∧ (∃ A' c', v' = .slice A' (n + m) c') ∧ (v' = .slice none 0 0 → v = .slice none 0 0 ∧ m = 0) := by
  have form : ∀ {W : World} {v' : Value} {k : Nat} {ys : List Value}, W.ownsRow base e size v' k ys → ∃ A' c', v' = .slice A' k c' := by
    intro W v' k ys h
    rcases h.2 with ⟨rfl, rfl⟩ | ⟨g, cap, cur, rfl, _⟩
    · exact ⟨none, 0, rfl⟩
    · exact ⟨_, cap, rfl⟩
  by_cases hm : m = 0
  · subst hm
    have hn : news = [] := List.eq_nil_of_length_eq_zero (by simpa using hl)
    subst hn
    rcases A with _ | ad
    · refine ⟨v, w, ?_, by simpa using hown, World.grownBy.refl w _, .inl rfl, by simpa using form hown, fun h => ⟨h, rfl⟩⟩
      rcases hown.2 with ⟨rfl, rfl⟩ | ⟨g, cap, cur, rfl, _, _, hnc, _⟩
      · simp [Builtin.append_, run_underlying ht, sizeOf, typeInfo, hi, Builtin.lenOf, Builtin.firstCells]
      · simp [Builtin.append_, run_underlying ht, sizeOf, typeInfo, hi, Builtin.lenOf, Builtin.firstCells, hnc, storeCells]
    · obtain ⟨v', w', hrun, h2, h3, h4, h5⟩ := run_append_own_at (P := P) w base t ty e i z size bytes ht hi hz hsize hby hzs hsz v n xs hown ad 0 c [] hl (fun j u hu => by simp at hu) h1 h63 hbytes hbase
      exact ⟨v', w', hrun, h2, h3, h5, form h2, fun h => h4.1 h⟩
  · have hne : news ≠ [] := by
      rintro rfl
      have := Nat.mul_pos (Nat.pos_of_ne_zero hm) hsz
      simp at hl
      omega
    obtain ⟨b, o, rfl, hb, hc⟩ := hr hne
    obtain ⟨v', w', hrun, h2, h3, h4, h5⟩ := run_append_own_at (P := P) w base t ty e i z size bytes ht hi hz hsize hby hzs hsz v n xs hown ⟨b, o, none⟩ m c news hl (fun j u hu => by rw [Addr.add_lit]; exact hc j u hu) h1 h63 hbytes hbase
    exact ⟨v', w', hrun, h2, h3, h5, form h2, fun h => h4.1 h⟩

theorem wp_app {o : Oper} {a : Act} {K : Act → World → Prop} {Q : Exit → Act → World → Prop} (s x : Operand) (t : TypeId)
    (ho : o.op = .call { callee := .builtin .append, args := #[s, x], argTypes := #[t, t] })
    (base : Nat) (e : TypeId) (i : TypeInfo) (z : Value) (size bytes : Nat) (ht : P.underlying t = some (.slice e)) (hi : P.info? e = some i) (hz : i.zero = some z)
    (hsize : i.size = size) (hby : i.bytes = bytes) (hzs : z.cells.size = size) (hsz : 0 < size)
    (v : Value) (n : Nat) (xs : List Value) (hs : a.eval s = v) (hown : w.ownsRow base e size v n xs)
    (B : Nat) (A : Option Addr) (m c : Nat) (news : List Value) (hx : a.eval x = .slice A m c) (hl : news.length = m * size) (hr : Rd w B A news) (h1 : ∀ u ∈ news, u.oneCell' = true)
    (h63 : n + m ≤ maxLen) (hbytes : (n + m) * bytes ≤ 140737488355328) (hbase : base ≤ w.heap.size)
    (h : ∀ A' c' w', w'.ownsRow base e size (.slice A' (n + m) c') (n + m) (xs ++ news) → w.grownBy w' v.ownBlock → ((Value.slice A' (n + m) c').ownBlock = v.ownBlock ∨ (Value.slice A' (n + m) c').ownBlock = some w.heap.size) →
      (A' = none → v = .slice none 0 0 ∧ m = 0) → K (a.put o.dst (.slice A' (n + m) c')) w') : o.wp P a w K Q := by
  obtain ⟨v', w', hrun, h2, h3, h4, ⟨A', c', rfl⟩, h6⟩ := run_app (P := P) w base t o.type e i z size bytes ht hi hz hsize hby hzs hsz v n xs hown B A m c news hl hr h1 h63 hbytes hbase
  unfold Oper.wp execOp
  simp only [ho, resolve, invoke, builtin, Sem.run_bind, Sem.run_pure, Result.andThen_ok, List.map_toArray, List.map_cons, List.map_nil, hs, hx, hrun]
  refine h A' c' w' h2 h3 h4 (fun hA => h6 ?_)
  subst hA
  rcases h2.2 with ⟨e1, _⟩ | ⟨g, cap, cur, e1, _⟩
  · exact e1
  · injection e1 with e1; cases e1

theorem wpList_app {ops : Array Oper} {rest : List Oper} {o : Oper} {a : Act} {Q : Exit → Act → World → Prop} (hgd : o.guard = none) (s x : Operand) (t : TypeId)
    (ho : o.op = .call { callee := .builtin .append, args := #[s, x], argTypes := #[t, t] })
    (base : Nat) (e : TypeId) (i : TypeInfo) (z : Value) (size bytes : Nat) (ht : P.underlying t = some (.slice e)) (hi : P.info? e = some i) (hz : i.zero = some z)
    (hsize : i.size = size) (hby : i.bytes = bytes) (hzs : z.cells.size = size) (hsz : 0 < size)
    (v : Value) (n : Nat) (xs : List Value) (hs : a.eval s = v) (hown : w.ownsRow base e size v n xs)
    (B : Nat) (A : Option Addr) (m c : Nat) (news : List Value) (hx : a.eval x = .slice A m c) (hl : news.length = m * size) (hr : Rd w B A news) (h1 : ∀ u ∈ news, u.oneCell' = true)
    (h63 : n + m ≤ maxLen) (hbytes : (n + m) * bytes ≤ 140737488355328) (hbase : base ≤ w.heap.size)
    (h : ∀ A' c' w', w'.ownsRow base e size (.slice A' (n + m) c') (n + m) (xs ++ news) → w.grownBy w' v.ownBlock → ((Value.slice A' (n + m) c').ownBlock = v.ownBlock ∨ (Value.slice A' (n + m) c').ownBlock = some w.heap.size) →
      (A' = none → v = .slice none 0 0 ∧ m = 0) → wpList P ops Q rest (a.put o.dst (.slice A' (n + m) c')) w') : wpList P ops Q (o :: rest) a w :=
  wpList_plain hgd fun _ hK => wp_app w s x t ho base e i z size bytes ht hi hz hsize hby hzs hsz v n xs hs hown B A m c news hx hl hr h1 h63 hbytes hbase fun A' c' w' h2 h3 h4 h5 => hK _ _ (h A' c' w' h2 h3 h4 h5)
end

/-! ### bytes -/
def bv (zs : List Int) : List Value := zs.map (Value.int .u8)
theorem bv_length (zs : List Int) : (bv zs).length = zs.length := by simp [bv]
theorem bv_append (a b : List Int) : bv (a ++ b) = bv a ++ bv b := by simp [bv]
theorem bv_take (a : List Int) (k : Nat) : (bv a).take k = bv (a.take k) := by simp [bv]
theorem bv_drop (a : List Int) (k : Nat) : (bv a).drop k = bv (a.drop k) := by simp [bv]
theorem bv_get {zs : List Int} {k : Nat} {x : Int} (hk : zs[k]? = some x) : (bv zs)[k]? = some (.int .u8 x) := by simp [bv, hk]
theorem bv_one (zs : List Int) : ∀ u ∈ bv zs, u.oneCell' = true := by
  intro u hu
  obtain ⟨x, _, rfl⟩ := List.mem_map.1 hu
  rfl
/-- Each is a byte. -/
def Byt (zs : List Int) : Prop := ∀ x ∈ zs, 0 ≤ x ∧ x ≤ 255
theorem Byt.of {zs : List Int} (h : (zs.all fun x => decide (0 ≤ x) && decide (x ≤ 255)) = true) : Byt zs := fun x hx => by
  have := List.all_eq_true.1 h x hx
  simpa using this
theorem Byt.get {zs : List Int} (h : Byt zs) {k : Nat} {x : Int} (hk : zs[k]? = some x) : 0 ≤ x ∧ x ≤ 255 := h x (List.mem_of_getElem? hk)
theorem Byt.append {a b : List Int} (h : Byt a) (k : Byt b) : Byt (a ++ b) := fun x hx => (List.mem_append.1 hx).elim (h x) (k x)
theorem Byt.take {a : List Int} (h : Byt a) (k : Nat) : Byt (a.take k) := fun x hx => h x (List.mem_of_mem_take hx)
theorem Byt.drop {a : List Int} (h : Byt a) (k : Nat) : Byt (a.drop k) := fun x hx => h x (List.mem_of_mem_drop hx)
/-- The bytes zs lie from A on. -/
abbrev Rb (w : World) (B : Nat) (A : Option Addr) (zs : List Int) : Prop := Rd w B A (bv zs)
theorem Rb.get {w : World} {B : Nat} {A : Option Addr} {zs : List Int} (h : Rb w B A zs) {k : Nat} (hk : k < zs.length) :
    ∃ b o x, zs[k]? = some x ∧ A = some ⟨b, o, none⟩ ∧ b < B ∧ w.cell? ⟨b, o + k, none⟩ = some (.int .u8 x) := by
  have e := List.getElem?_eq_getElem hk
  obtain ⟨b, o, h1, h2, h3⟩ := Rd.get h (bv_get e)
  exact ⟨b, o, zs[k], e, h1, h2, h3⟩

/-! ### 'w' is w, but for an append in place onto the owned slice v, which has become v'' -/
structure App (base : Nat) (e : TypeId) (size : Nat) (w : World) (v : Value) (w' : World) (v' : Value) (n : Nat) (xs : List Value) : Prop where
  own : w'.ownsRow base e size v' n xs
  grown : w.grownBy w' v.ownBlock
  block : v'.ownBlock = v.ownBlock ∨ ∃ k, v'.ownBlock = some k ∧ w.heap.size ≤ k
section
variable {base : Nat} {e : TypeId} {size n n' : Nat} {w w' w2 : World} {v v' v2 : Value} {xs ys : List Value}
theorem App.refl (h : w.ownsRow base e size v n xs) : App base e size w v w v n xs := ⟨h, World.grownBy.refl w _, .inl rfl⟩
theorem grown_row {a b c : World} {r r' : Option Nat} (h : a.grownBy b r) (k : b.grownBy c r') (hr : r' = r ∨ ∃ g, r' = some g ∧ a.heap.size ≤ g) : a.grownBy c r :=
  ⟨k.os.trans h.os, k.tape.trans h.tape, k.output.trans h.output, Nat.le_trans h.size k.size, fun i hi hne => (k.block i (Nat.lt_of_lt_of_le hi h.size) (by
    rcases hr with rfl | ⟨g, rfl, hg⟩
    · exact hne
    · intro e; injection e with e; omega)).trans (h.block i hi hne)⟩
theorem App.trans (h : App base e size w v w' v' n xs) (k : App base e size w' v' w2 v2 n' ys) : App base e size w v w2 v2 n' ys := by
  refine ⟨k.own, grown_row h.grown k.grown h.block, ?_⟩
  rcases k.block with hb | ⟨g, hg, hl⟩
  · rcases h.block with hb' | ⟨g, hg, hl⟩
    · exact .inl (hb.trans hb')
    · exact .inr ⟨g, hb.trans hg, hl⟩
  · exact .inr ⟨g, hg, Nat.le_trans h.grown.size hl⟩
theorem App.drewN (h : App base e size w v w' v' n xs) (k : Nat) : App base e size w v (w'.drewN k) v' n xs :=
  ⟨h.own, ⟨h.grown.os, h.grown.tape, h.grown.output, h.grown.size, h.grown.block⟩, h.block⟩
theorem App.drew (h : App base e size w v w' v' n xs) : App base e size w v w'.drew v' n xs :=
  ⟨h.own, ⟨h.grown.os, h.grown.tape, h.grown.output, h.grown.size, h.grown.block⟩, h.block⟩
theorem App.alloc (h : App base e size w v w' v' n xs) (o : Obj) : App base e size w v (w'.alloc o) v' n xs :=
  ⟨h.own.alloc o, ⟨h.grown.os, h.grown.tape, h.grown.output, by have := h.grown.size; simp; omega, fun i hi hne => (Below.heap_alloc w' o i (Nat.lt_of_lt_of_le hi h.grown.size)).trans (h.grown.block i hi hne)⟩, h.block⟩
/-- One append more, as the law hands it over (a box for what is appended was laid ahead of it, or not). -/
theorem App.step (h : App base e size w v w' v' n xs) {w1 : World} (ho : w1.ownsRow base e size v2 n' ys) (hg : w'.grownBy w1 v'.ownBlock) (hb : v2.ownBlock = v'.ownBlock ∨ v2.ownBlock = some w'.heap.size) : App base e size w v w1 v2 n' ys :=
  h.trans ⟨ho, hg, hb.imp id fun h => ⟨_, h, Nat.le_refl _⟩⟩
/-- What was made since w, seen from w: an append onto nil. -/
theorem App.fresh {w1 : World} (h : App base e size w1 v w' v' n xs) (hg : w.grownBy w1 none) (hv : ∀ k, v.ownBlock = some k → w.heap.size ≤ k) : App base e size w (.slice none 0 0) w' v' n xs := by
  have hr : v.ownBlock = none ∨ ∃ g, v.ownBlock = some g ∧ w.heap.size ≤ g := by
    cases hb : v.ownBlock with
    | none => exact .inl rfl
    | some k => exact .inr ⟨k, rfl, hv k hb⟩
  refine ⟨h.own, grown_row hg h.grown hr, ?_⟩
  rcases h.block with hb | ⟨g, hb, hl⟩
  · rcases hr with hr | ⟨g, hr, hl⟩
    · exact .inl (hb.trans hr)
    · exact .inr ⟨g, hb.trans hr, hl⟩
  · exact .inr ⟨g, hb, Nat.le_trans hg.size hl⟩
theorem App.fresh1 {o : Obj} (h : App base e size (w.alloc o) (.slice (some ⟨w.heap.size, 0, none⟩) 0 0) w' v' n xs) : App base e size w (.slice none 0 0) w' v' n xs :=
  h.fresh (World.grownBy_alloc w o none) (fun k hk => by simp [Value.ownBlock] at hk; omega)
theorem App.below0 (h : App base e size w (.slice none 0 0) w' v' n xs) : Below w.heap.size w w' :=
  ⟨h.grown.os, h.grown.tape, h.grown.output, h.grown.size, fun k hk => h.grown.block k hk (by simp [Value.ownBlock])⟩
theorem App.below {B : Nat} (h : App base e size w v w' v' n xs) (hB : B ≤ w.heap.size) (hv : ∀ k, v.ownBlock = some k → B ≤ k) : Below B w w' :=
  ⟨h.grown.os, h.grown.tape, h.grown.output, h.grown.size, fun k hk => h.grown.block k (by omega) (fun e => by have := hv k e.symm; omega)⟩
/-- A store into the row. -/
theorem App.set {g c : Nat} (h : App base e size w v w' (.slice (some ⟨g, 0, none⟩) n c) n xs) (j : Nat) (u : Value) : App base e size w v (w'.setCell ⟨g, j, none⟩ u) (.slice (some ⟨g, 0, none⟩) n c) n (xs.set j u) :=
  h.trans ⟨(h.own.stored j u).1, (h.own.stored j u).2, .inl rfl⟩
/-- What is done beside it leaves it. -/
theorem App.later (h : App base e size w v w' v' n xs) (hb : Below w'.heap.size w' w2) : App base e size w v w2 v' n xs :=
  ⟨h.own.kept (row := none) ⟨hb.os, hb.tape, hb.output, hb.size, fun k hk _ => hb.block k hk⟩ (by cases v'.ownBlock <;> simp),
    ⟨hb.os.trans h.grown.os, hb.tape.trans h.grown.tape, hb.output.trans h.grown.output, Nat.le_trans h.grown.size hb.size, fun k hk hne => (hb.block k (Nat.lt_of_lt_of_le hk h.grown.size)).trans (h.grown.block k hk hne)⟩, h.block⟩
theorem App.heap (h : App base e size w v w' v' n xs) : w.heap.size ≤ w'.heap.size := h.grown.size
end
theorem grown_below {a b : World} {B : Nat} {r : Option Nat} (h : a.grownBy b r) (hB : B ≤ a.heap.size) (hr : ∀ k, r = some k → B ≤ k) : Below B a b :=
  ⟨h.os, h.tape, h.output, h.size, fun k hk => h.block k (by omega) (fun e => by have := hr k e.symm; omega)⟩
/-- A slice value's length is its row's. -/
theorem own_length {w : World} {base n : Nat} {e : TypeId} {v : Value} {xs : List Value} (h : w.ownsRow base e 1 v n xs) : xs.length = n := by have := h.1; omega

/-- The call returns a slice that it has made. -/
def RetNew (e : TypeId) (size : Nat) (w : World) (n : Nat) (xs : List Value) (P : Option Addr → Prop) (en : Ending) (w' : World) : Prop :=
  ∃ A' c', en = .returned (.slice A' n c') ∧ App w.heap.size e size w (.slice none 0 0) w' (.slice A' n c') n xs ∧ P A'
/-- The call returns a slice that it has made, and more. -/
def RetNew2 (e : TypeId) (size : Nat) (w : World) (n : Nat) (xs : List Value) (r : Value) (P : Option Addr → Prop) (en : Ending) (w' : World) : Prop :=
  ∃ A' c', en = .returned (.tuple #[.slice A' n c', r]) ∧ App w.heap.size e size w (.slice none 0 0) w' (.slice A' n c') n xs ∧ P A'
/-- The call returns a slice that was appended to. -/
def RetApp (base : Nat) (e : TypeId) (size : Nat) (w : World) (v : Value) (n : Nat) (xs : List Value) (P : Option Addr → Prop) (en : Ending) (w' : World) : Prop :=
  ∃ A' c', en = .returned (.slice A' n c') ∧ App base e size w v w' (.slice A' n c') n xs ∧ P A'

theorem Rb.take {w : World} {B : Nat} {A : Option Addr} {zs : List Int} (h : Rb w B A zs) (k : Nat) : Rb w B A (zs.take k) := by
  have := Rd.take h k
  rwa [bv_take] at this
theorem Rb.drop {w : World} {B : Nat} {A : Option Addr} {zs : List Int} (h : Rb w B A zs) {k cap : Nat} (hc : zs.length ≤ cap) : Rb w B (if cap = k then A else A.map (·.add k)) (zs.drop k) := by
  have := Rd.drop (k := k) (cap := cap) h (by rw [bv_length]; exact hc)
  rwa [bv_drop] at this
/-- A string's bytes as numbers. -/
def nums (s : ByteArray) : List Int := s.data.toList.map fun c => (c.toNat : Int)
theorem nums_len (s : ByteArray) : (nums s).length = s.size := by rw [nums, List.length_map, Array.length_toList]; rfl
theorem nums_get {s : ByteArray} {k : Nat} (h : k < s.size) : (nums s)[k]? = some ((s[k]'h).toNat : Int) := by
  have h' : k < s.data.size := h
  rw [nums, List.getElem?_map, Array.getElem?_toList, Array.getElem?_eq_getElem h']
  rfl
theorem nums_byt (s : ByteArray) : Byt (nums s) := by
  intro x hx
  obtain ⟨c, _, rfl⟩ := List.mem_map.1 hx
  have := c.toNat_lt
  omega
theorem strOf_nums (s : ByteArray) : strOfNums (nums s) = s := by
  apply ByteArray.ext
  apply Array.ext'
  rw [strOfNums_data, nums, List.map_map]
  conv => rhs; rw [← List.map_id s.data.toList]
  apply List.map_congr_left
  intro c _
  simp
theorem nums_strOf {zs : List Int} (h : Byt zs) : nums (strOfNums zs) = zs := by
  unfold nums
  rw [strOfNums_data, List.map_map]
  conv => rhs; rw [← List.map_id zs]
  apply List.map_congr_left
  intro x hx
  have := h x hx
  simp [UInt8.toNat_ofNat']
  omega
theorem nums_inj {s t : ByteArray} (h : nums s = nums t) : s = t := by rw [← strOf_nums s, ← strOf_nums t, h]

/-- Two slices whose cells lie in two blocks. -/
def Sep (A A1 : Option Addr) : Prop := ∀ a b, A = some a → A1 = some b → a.block ≠ b.block
theorem Sep.symm {A A1 : Option Addr} (h : Sep A A1) : Sep A1 A := fun a b ha hb e => h b a hb ha e.symm
theorem Sep.none_left {A : Option Addr} : Sep none A := fun _ _ h => by cases h
theorem Sep.none_right {A : Option Addr} : Sep A none := fun _ _ _ h => by cases h
/-- What lies below the base of a row lies in another block than the row. -/
theorem Sep.of_own {w : World} {base n c size B : Nat} {e : TypeId} {A A1 : Option Addr} {xs : List Value} (h : w.ownsRow base e size (.slice A n c) n xs) (h1 : ∀ a, A1 = some a → a.block < B) (hB : B ≤ base) : Sep A A1 := fun a b ha hb e => by
  subst ha
  have := (h.lt a.block rfl).1
  have := h1 b hb
  omega
theorem Rd.apart {w w' : World} {B n c : Nat} {A A1 : Option Addr} {xs : List Value} (h : Rd w B A1 xs) (hB : B ≤ w.heap.size) (hg : w.grownBy w' (Value.slice A n c).ownBlock) (hs : Sep A A1) : Rd w' B A1 xs := fun hn => by
  obtain ⟨b, o, rfl, hb, hc⟩ := h hn
  refine ⟨b, o, rfl, hb, fun j u hu => ?_⟩
  rw [World.cell?_of_block (w := w) (a := ⟨b, o + j, none⟩) (hg.block b (by omega) ?_)]
  · exact hc j u hu
  · intro e
    cases A with
    | none => simp [Value.ownBlock] at e
    | some a =>
      simp [Value.ownBlock] at e
      exact hs a _ rfl rfl e.symm

/-- A slice that was made, as its readers want it. -/
theorem App.rd {ty : TypeId} {w w' : World} {A : Option Addr} {n c base : Nat} {v : Value} {xs : List Value} (h : App base ty 1 w v w' (.slice A n c) n xs) : Rd w' w'.heap.size A xs := Rd.of_own h.own
theorem App.cap {ty : TypeId} {w w' : World} {A : Option Addr} {n c base : Nat} {v : Value} {xs : List Value} (h : App base ty 1 w v w' (.slice A n c) n xs) : n ≤ c := by
  rcases h.own.2 with ⟨h1, h2⟩ | ⟨_, _, _, h1, _, _, h2, _⟩
  · omega
  · injection h1 with _ _ h3; omega
theorem App.lo {ty : TypeId} {size : Nat} {w w' : World} {A : Option Addr} {n c : Nat} {xs : List Value} (h : App w.heap.size ty size w (.slice none 0 0) w' (.slice A n c) n xs) : ∀ a, A = some a → w.heap.size ≤ a.block ∧ a.block < w'.heap.size := fun a ha => by
  subst ha
  exact h.own.lt a.block rfl

/-! ### 'string(b)' -/
theorem Rb.str {P : Program} {w : World} {B : Nat} {A : Option Addr} {zs : List Int} (h : Rb w B A zs) {src e dst : TypeId} (hs : P.underlying src = some (.slice e)) (he : P.underlying e = some (.int .u8)) (hd : P.underlying dst = some .string) (c : Nat) :
    (convert src dst (.slice A zs.length c)).run P w = .ok (.string (strOfNums zs)) w := by
  by_cases hz : zs = []
  · subst hz
    cases A with
    | none => exact run_convert_bytes_nil w src e hs he 0 c dst hd
    | some a =>
      rw [run_convert_bytes_string w src dst e _ _ c hs he hd]
      simp [Conv.bytesToString, loadCells]
      rfl
  · obtain ⟨b, o, rfl, hb, hc⟩ := h (by simpa [bv] using hz)
    refine run_convert_bytes_arg w src e hs he b o zs.length c zs rfl (fun i hi => ?_) dst hd
    rw [hc i _ (bv_get (List.getElem?_eq_getElem hi))]
    simp [List.getD, List.getElem?_eq_getElem hi]
end Go.Proofs.Ytchpekidnbdpdaa


/- Bytes and texts, plain. -/
namespace Go.Proofs.Ytchpekidnbdpdaa
open Go.RowKit

/-- The test of two lists of bytes, opaque to the walk. -/
def eqb (xs ys : List Int) : Bool := decide (xs = ys)
theorem eqb_true {xs ys : List Int} : eqb xs ys = true ↔ xs = ys := by simp [eqb]
theorem take_snoc {α : Type} {l : List α} {k : Nat} {x : α} (h : l[k]? = some x) : l.take (k + 1) = l.take k ++ [x] := by
  rw [List.take_add_one, h]; rfl

/-- Is a list of bytes below another one, in order? -/
def ltb : List Int → List Int → Bool
  | _, [] => false
  | [], _ :: _ => true
  | x :: xs, y :: ys => decide (x < y) || (decide (x = y) && ltb xs ys)
theorem ltb_str : ∀ {xs ys : List Int}, Byt xs → Byt ys → Op.bytesLess (strOfNums xs).toList (strOfNums ys).toList = ltb xs ys := by
  intro xs ys hx hy
  rw [ByteArray.toList_eq, ByteArray.toList_eq, strOfNums_data, strOfNums_data]
  induction xs generalizing ys with
  | nil => cases ys <;> rfl
  | cons x xs ih =>
    cases ys with
    | nil => rfl
    | cons y ys =>
      obtain ⟨a, b⟩ := hx x (by simp)
      obtain ⟨c, d⟩ := hy y (by simp)
      have h1 : (UInt8.ofNat x.toNat < UInt8.ofNat y.toNat) = (x < y) := by
        rw [UInt8.lt_iff_toNat_lt, UInt8.toNat_ofNat', UInt8.toNat_ofNat', Nat.mod_eq_of_lt (by omega), Nat.mod_eq_of_lt (by omega)]
        exact propext ⟨fun h => by omega, fun h => by omega⟩
      have h2 : (UInt8.ofNat x.toNat == UInt8.ofNat y.toNat) = decide (x = y) := by
        rw [Bool.eq_iff_iff, beq_iff_eq, decide_eq_true_iff]
        refine ⟨fun h => ?_, fun h => by rw [h]⟩
        have h := congrArg UInt8.toNat h
        rw [UInt8.toNat_ofNat', UInt8.toNat_ofNat', Nat.mod_eq_of_lt (by omega), Nat.mod_eq_of_lt (by omega)] at h
        omega
      simp only [List.map_cons, Op.bytesLess, ltb, h1, h2]
      rw [ih (fun z hz => hx z (by simp [hz])) (fun z hz => hy z (by simp [hz]))]

end Go.Proofs.Ytchpekidnbdpdaa


/- Spans: plain words, and how they lie in memory; the contracts of Text, name, long and Check. -/
namespace Go.Proofs.Ytchpekidnbdpdaa
open Go.RowKit

structure Tg where
  key : ByteArray
  val : ByteArray
deriving DecidableEq
structure Sp where
  hi : Nat
  lo : Nat
  id : Nat
  parent : Nat
  service : ByteArray
  name : ByteArray
  kind : Int
  start : Int
  length : Int
  fails : Bool
  tags : List Tg
deriving DecidableEq
/-- The cells of tags. -/
def tgs (l : List Tg) : List Value := l.flatMap fun t => [.string t.key, .string t.val]
theorem tgs_length (l : List Tg) : (tgs l).length = l.length * 2 := by
  induction l with
  | nil => rfl
  | cons t l ih =>
    have : tgs (t :: l) = .string t.key :: .string t.val :: tgs l := rfl
    rw [this, List.length_cons, List.length_cons, List.length_cons, ih]
    omega
theorem tgs_append (a b : List Tg) : tgs (a ++ b) = tgs a ++ tgs b := by simp [tgs]
theorem tgs_get : ∀ {l : List Tg} {i : Nat} {t : Tg}, l[i]? = some t → (tgs l)[i * 2]? = some (.string t.key) ∧ (tgs l)[i * 2 + 1]? = some (.string t.val) := by
  intro l
  induction l with
  | nil => intro i t h; simp at h
  | cons u l ih =>
    intro i t h
    have e : tgs (u :: l) = .string u.key :: .string u.val :: tgs l := rfl
    rw [e]
    cases i with
    | zero => simp at h; subst h; simp
    | succ i =>
      have := ih (i := i) (t := t) (by simpa using h)
      rw [show (i + 1) * 2 = i * 2 + 1 + 1 from by omega, show i * 2 + 1 + 1 + 1 = (i * 2 + 1) + 1 + 1 from rfl, List.getElem?_cons_succ, List.getElem?_cons_succ, List.getElem?_cons_succ, List.getElem?_cons_succ]
      exact this
theorem tgs_one (l : List Tg) : ∀ u ∈ tgs l, u.oneCell' = true := by
  intro u hu
  obtain ⟨t, _, ht⟩ := List.mem_flatMap.1 hu
  simp at ht
  rcases ht with rfl | rfl <;> rfl
/-- The tags lie from A on, two cells each. -/
abbrev RbT (w : World) (B : Nat) (A : Option Addr) (l : List Tg) : Prop := Rd w B A (tgs l)
theorem RbT.get {w : World} {B : Nat} {A : Option Addr} {l : List Tg} (h : RbT w B A l) {i : Nat} {t : Tg} (hi : l[i]? = some t) :
    ∃ b o, A = some ⟨b, o, none⟩ ∧ b < B ∧ w.cell? ⟨b, o + i * 2, none⟩ = some (.string t.key) ∧ w.cell? ⟨b, o + i * 2 + 1, none⟩ = some (.string t.val) := by
  obtain ⟨h1, h2⟩ := tgs_get hi
  obtain ⟨b, o, e, hb, hc⟩ := Rd.get h h1
  obtain ⟨b', o', e', _, hc'⟩ := Rd.get h h2
  rw [e] at e'
  cases e'
  exact ⟨b, o, e, hb, hc, hc'⟩

/-- A span's cells. -/
abbrev spC (s : Sp) (A : Option Addr) (n c : Nat) : Array Value := #[.int .u64 s.hi, .int .u64 s.lo, .int .u64 s.id, .int .u64 s.parent, .string s.service, .string s.name, .int .i64 s.kind, .int .i64 s.start, .int .i64 s.length, .bool s.fails, .slice A n c]
abbrev spV (s : Sp) (A : Option Addr) (n c : Nat) : Value := .agg (spC s A n c)

/-! ### what may be -/
def plainB (s : ByteArray) : Bool := (nums s).all fun x => decide (32 ≤ x) && decide (x ≤ 126)
def txtB (s : ByteArray) : Bool := decide (s.size ≤ 128) && plainB s
def nameB (s : ByteArray) : Bool := decide (0 < s.size) && txtB s
def tgLong (t : Tg) : Bool := decide (128 < t.key.size) || decide (128 < t.val.size)
def longB (s : Sp) : Bool := decide (128 < s.service.size) || decide (128 < s.name.size) || decide (16 < s.tags.length) || s.tags.any tgLong
def strLt (s t : ByteArray) : Bool := Op.bytesLess s.toList t.toList
def tagOk (l : List Tg) (i : Nat) : Bool :=
  match l[i]? with
  | none => true
  | some t => nameB t.key && txtB t.val && (decide (i = 0) || match l[i - 1]? with | none => true | some u => strLt u.key t.key)
def tagsOk (l : List Tg) (k : Nat) : Bool := (List.range k).all (tagOk l)
theorem tagsOk_succ (l : List Tg) (k : Nat) : tagsOk l (k + 1) = (tagsOk l k && tagOk l k) := by simp [tagsOk, List.range_succ]
def headB (s : Sp) : Bool :=
  (decide (s.hi ≠ 0) || decide (s.lo ≠ 0)) && decide (s.id ≠ 0) && nameB s.service && nameB s.name && decide (0 ≤ s.kind) && decide (s.kind ≤ 5) && decide (0 ≤ s.start) && decide (0 ≤ s.length) && decide (s.start ≤ 4611686018427387903) && decide (s.length ≤ 4611686018427387903 - s.start)
/-- What Check tells. -/
def spChk (s : Sp) : Nat := if longB s = true then 3 else if headB s && tagsOk s.tags s.tags.length then 0 else 2

set_option maxHeartbeats 400000 in
theorem spText (w : World) (s : ByteArray) :
    Calls Try.prog 52 #[.string s] w fun e w' => e = .returned (.bool (txtB s)) ∧ w' = w := by
  obtain ⟨q, hq⟩ : ∃ q, txtB s = q := ⟨_, rfl⟩
  rw [hq]
  have HQ := Lib.hid hq
  clear hq
  by_cases hl : 128 < s.size
  · have d1 : (128 : Int) < (s.size : Int) := by omega
    go_enter Try.func52, Try.ntmps52
    go_wp2
    go_ret
    have : q = false := by rw [← HQ.out, txtB]; simp; omega
    exact ⟨by rw [this]; rfl, rfl⟩
  have d1 : decide ((128 : Int) < (s.size : Int)) = false := by simp; omega
  go_enter Try.func52, Try.ntmps52
  go_wp2
  go_loop [9] (fun iv_ => ∃ k : Nat, k ≤ s.size ∧ iv_ = .int .i64 k ∧ ((nums s).take k).all (fun x => decide (32 ≤ x) && decide (x ≤ 126)) = true) (fun i => s.size - (intOf i).toNat)
  case atStart => exact ⟨0, by omega, rfl, rfl⟩
  case round =>
    obtain ⟨k, hk, rfl, hall⟩ := hrel
    have HA := Lib.hid hall
    clear hall
    by_cases hlt : k < s.size
    · have hlt' : (k : Int) < (s.size : Int) := by omega
      obtain ⟨z, hz⟩ : ∃ z : Int, z = ((s[k]'hlt).toNat : Int) := ⟨_, rfl⟩
      have hzz : ((s[k]'hlt).toNat : Int) = z := hz.symm
      have HZ : Hid ((nums s)[k]? = some z) := by rw [hz]; exact nums_get hlt
      clear hz
      by_cases h1 : z < 32
      · go_wp2
        go_ret
        have : q = false := by
          rw [← HQ.out, txtB, plainB]
          have : ((nums s).all fun x => decide (32 ≤ x) && decide (x ≤ 126)) = false := by
            rw [List.all_eq_false]
            exact ⟨z, List.mem_of_getElem? HZ.out, by simp; omega⟩
          simp [this]
        exact ⟨by rw [this]; rfl, rfl⟩
      have h1' : decide (z < 32) = false := by simp; omega
      by_cases h2 : 126 < z
      · go_wp2
        go_ret
        have : q = false := by
          rw [← HQ.out, txtB, plainB]
          have : ((nums s).all fun x => decide (32 ≤ x) && decide (x ≤ 126)) = false := by
            rw [List.all_eq_false]
            exact ⟨z, List.mem_of_getElem? HZ.out, by simp; omega⟩
          simp [this]
        exact ⟨by rw [this]; rfl, rfl⟩
      have h2' : decide (126 < z) = false := by simp; omega
      go_wp2
      go_round
      case rel => exact ⟨k + 1, by omega, by go_num, by rw [take_snoc HZ.out, List.all_append, HA.out]; simp; omega⟩
      case measure => simp [intOf]; omega
    · have hlt' : decide ((k : Int) < (s.size : Int)) = false := by simp; omega
      go_wp2
      go_ret
      have : q = true := by
        rw [← HQ.out, txtB, plainB]
        have h1 := HA.out
        rw [List.take_of_length_le (by rw [nums_len]; omega)] at h1
        rw [h1]
        simp; omega
      exact ⟨by rw [this]; rfl, rfl⟩

theorem str_empty {s : ByteArray} : (s.toList == []) = decide (s.size = 0) := by
  rw [ByteArray.toList_eq, Bool.eq_iff_iff, beq_iff_eq, decide_eq_true_iff]
  have : s.data.toList.length = s.size := rfl
  refine ⟨fun h => by rw [← this, h]; rfl, fun h => List.eq_nil_of_length_eq_zero (by omega)⟩
theorem spName (w : World) (s : ByteArray) :
    Calls Try.prog 51 #[.string s] w fun e w' => e = .returned (.bool (nameB s)) ∧ w' = w := by
  by_cases h0 : 0 < s.size
  · have d1 : (s.toList == []) = false := by rw [str_empty, decide_eq_false_iff_not]; omega
    obtain ⟨q, hq⟩ : ∃ q, txtB s = q := ⟨_, rfl⟩
    have hn : nameB s = q := by simp [nameB, h0, hq]
    have ht := spText w s
    rw [hq] at ht
    rw [hn]
    have HT := Lib.hid ht
    clear ht hq hn
    go_enter Try.func51, Try.ntmps51
    go_wp2_with (go_at_call 52; refine HT.out.mono ?_; rintro e w' ⟨rfl, rfl⟩)
    go_ret
    exact ⟨rfl, rfl⟩
  · have d1 : (s.toList == []) = true := by rw [str_empty, decide_eq_true_iff]; omega
    have hn : nameB s = false := by simp [nameB, h0]
    rw [hn]
    go_enter Try.func51, Try.ntmps51
    go_wp2
    go_ret
    exact ⟨rfl, rfl⟩
theorem spLong1 (W : World) (t : Tg) :
    Calls Try.prog 73 #[.agg #[.string t.key, .string t.val]] W fun e W' => e = .returned (.bool (tgLong t)) ∧ Below W.heap.size W W' := by
  obtain ⟨q, hq⟩ : ∃ q, tgLong t = q := ⟨_, rfl⟩
  rw [hq]
  unfold tgLong at hq
  have HQ := Lib.hid hq
  clear hq
  by_cases h1 : 128 < t.key.size
  · have d1 : (128 : Int) < (t.key.size : Int) := by omega
    go_enter Try.func73, Try.ntmps73
    go_wp2
    go_ret
    have : q = true := by rw [← HQ.out]; simp [h1]
    exact ⟨by rw [this]; rfl, (Below.refl _ W).alloc (Nat.le_refl _) _⟩
  have d1 : decide ((128 : Int) < (t.key.size : Int)) = false := by simp; omega
  by_cases h2 : 128 < t.val.size
  · have d2 : (128 : Int) < (t.val.size : Int) := by omega
    go_enter Try.func73, Try.ntmps73
    go_wp2
    go_ret
    have : q = true := by rw [← HQ.out]; simp [h2]
    exact ⟨by rw [this]; rfl, (Below.refl _ W).alloc (Nat.le_refl _) _⟩
  have d2 : decide ((128 : Int) < (t.val.size : Int)) = false := by simp; omega
  go_enter Try.func73, Try.ntmps73
  go_wp2
  go_ret
  have : q = false := by rw [← HQ.out]; simp [h1, h2]
  exact ⟨by rw [this]; rfl, (Below.refl _ W).alloc (Nat.le_refl _) _⟩
end Go.Proofs.Ytchpekidnbdpdaa


/- A span's cells in a block. -/
namespace Go.Proofs.Ytchpekidnbdpdaa
open Go.RowKit

/-- The first field of a span: its trace. -/
theorem field_trace (W : World) (a b c d e f g h i j k : Value) : (Instr.field 32 (.agg #[a, b, c, d, e, f, g, h, i, j, k]) 0).run Try.prog W = .ok (.agg #[a, b]) W := by
  kernel_rfl
/-- The eleven cells of a span that lies in a block. -/
def Cells11 (g : Nat) (s : Sp) (A : Option Addr) (n c : Nat) (w' : World) : Prop := w'.cell? ⟨g, 0, none⟩ = some (.int .u64 s.hi) ∧ w'.cell? ⟨g, 1, none⟩ = some (.int .u64 s.lo) ∧ w'.cell? ⟨g, 2, none⟩ = some (.int .u64 s.id) ∧ w'.cell? ⟨g, 3, none⟩ = some (.int .u64 s.parent) ∧ w'.cell? ⟨g, 4, none⟩ = some (.string s.service) ∧ w'.cell? ⟨g, 5, none⟩ = some (.string s.name) ∧ w'.cell? ⟨g, 6, none⟩ = some (.int .i64 s.kind) ∧ w'.cell? ⟨g, 7, none⟩ = some (.int .i64 s.start) ∧ w'.cell? ⟨g, 8, none⟩ = some (.int .i64 s.length) ∧ w'.cell? ⟨g, 9, none⟩ = some (.bool s.fails) ∧ w'.cell? ⟨g, 10, none⟩ = some (.slice A n c)
theorem cells11 {w' : World} {g : Nat} {s : Sp} {A : Option Addr} {n c : Nat} (h : Bk w' g 32 (spC s A n c)) : w'.cell? ⟨g, 0, none⟩ = some (.int .u64 s.hi) ∧ w'.cell? ⟨g, 1, none⟩ = some (.int .u64 s.lo) ∧ w'.cell? ⟨g, 2, none⟩ = some (.int .u64 s.id) ∧ w'.cell? ⟨g, 3, none⟩ = some (.int .u64 s.parent) ∧ w'.cell? ⟨g, 4, none⟩ = some (.string s.service) ∧ w'.cell? ⟨g, 5, none⟩ = some (.string s.name) ∧ w'.cell? ⟨g, 6, none⟩ = some (.int .i64 s.kind) ∧ w'.cell? ⟨g, 7, none⟩ = some (.int .i64 s.start) ∧ w'.cell? ⟨g, 8, none⟩ = some (.int .i64 s.length) ∧ w'.cell? ⟨g, 9, none⟩ = some (.bool s.fails) ∧ w'.cell? ⟨g, 10, none⟩ = some (.slice A n c) :=
  ⟨h.cell 0, h.cell 1, h.cell 2, h.cell 3, h.cell 4, h.cell 5, h.cell 6, h.cell 7, h.cell 8, h.cell 9, h.cell 10⟩
end Go.Proofs.Ytchpekidnbdpdaa


/- A span's zero; append of tags; rows. -/
namespace Go.Proofs.Ytchpekidnbdpdaa
open Go.RowKit

def Sp.U64 (s : Sp) : Prop := s.hi < 18446744073709551616 ∧ s.lo < 18446744073709551616 ∧ s.id < 18446744073709551616 ∧ s.parent < 18446744073709551616
def zeroSp : Sp := ⟨0, 0, 0, 0, ⟨#[]⟩, ⟨#[]⟩, 0, 0, 0, false, []⟩
/-- A zero span's cells. -/
abbrev zspC : Array Value := #[.int .u64 0, .int .u64 0, .int .u64 0, .int .u64 0, .string ⟨#[]⟩, .string ⟨#[]⟩, .int .i64 0, .int .i64 0, .int .i64 0, .bool false, .slice none 0 0]
theorem tginfo : (Try.prog.info? 80).map (fun i => (i.zero, i.size, i.bytes)) = some (some (.agg #[.string ⟨#[]⟩, .string ⟨#[]⟩]), 2, 32) := by kernel_rfl
/-- append of tags. -/
theorem wp_appT (w : World) {o : Oper} {a : Act} {K : Act → World → Prop} {Q : Exit → Act → World → Prop} (s x : Operand)
    (ho : o.op = .call { callee := .builtin .append, args := #[s, x], argTypes := #[30, 30] })
    (base : Nat) (v : Value) (n : Nat) (l : List Tg) (hs : a.eval s = v) (hown : w.ownsRow base 80 2 v n (tgs l))
    (B : Nat) (A : Option Addr) (m c : Nat) (news : List Tg) (hx : a.eval x = .slice A m c) (hl : news.length = m) (hr : RbT w B A news)
    (hbytes : n + m ≤ 4398046511104) (hbase : base ≤ w.heap.size)
    (h : ∀ A' c' w', App base 80 2 w v w' (.slice A' (n + m) c') (n + m) (tgs (l ++ news)) → (A' = none → v = .slice none 0 0 ∧ m = 0) → K (a.put o.dst (.slice A' (n + m) c')) w') :
    o.wp Try.prog a w K Q := by
  obtain ⟨i0, hi0, hz0, hz1, hz2⟩ := info_parts tginfo
  refine wp_app w s x _ ho base 80 i0 _ 2 32 Try.underlying30 hi0 hz0 hz1 hz2 rfl (by omega) v n (tgs l) hs hown B A m c (tgs news) hx (by rw [tgs_length, hl]) hr (tgs_one news) (by simp only [maxLen]; omega) (by omega) hbase ?_
  intro A' c' w' h1 h2 h3 h4
  rw [← tgs_append] at h1
  exact h A' c' w' ((App.refl hown).step h1 h2 h3) h4
theorem step_appT {w : World} {ops : Array Oper} {o : Oper} {a : Act} {K : Act → World → Prop} {Q : Exit → Act → World → Prop} {E : Prop} (hgd : o.guard = none) (s x : Operand)
    (ho : o.op = .call { callee := .builtin .append, args := #[s, x], argTypes := #[30, 30] })
    (base : Nat) (v : Value) (n : Nat) (l : List Tg) (hs : a.eval s = v) (hown : w.ownsRow base 80 2 v n (tgs l))
    (B : Nat) (A : Option Addr) (m c : Nat) (news : List Tg) (hx : a.eval x = .slice A m c) (hl : news.length = m) (hr : RbT w B A news)
    (hbytes : n + m ≤ 4398046511104) (hbase : base ≤ w.heap.size)
    (h : ∀ A' c' w', App base 80 2 w v w' (.slice A' (n + m) c') (n + m) (tgs (l ++ news)) → (A' = none → v = .slice none 0 0 ∧ m = 0) → K (a.put o.dst (.slice A' (n + m) c')) w') :
    if Region.wanted o (yielded ops a.tmps) = true then Oper.wp Try.prog o a w K Q else E := by
  have hw : Region.wanted o (yielded ops a.tmps) = true := by simp [Region.wanted, hgd]
  rw [if_pos hw]
  exact wp_appT w s x ho base v n l hs hown B A m c news hx hl hr hbytes hbase h

/-- 'append', shut: what a walk through a drawn region is told of it by an equation. -/
def appK (ts : Array TypeId) (ty : TypeId) (vs : Array Value) : Sem Value := Builtin.append_ ts ty vs
theorem appK_shut (ts : Array TypeId) (ty : TypeId) (vs : Array Value) : Builtin.append_ ts ty vs = appK ts ty vs := rfl
theorem run_appT (w : World) (base : Nat) (v : Value) (n : Nat) (l : List Tg) (hown : w.ownsRow base 80 2 v n (tgs l))
    (B : Nat) (A : Option Addr) (m c : Nat) (news : List Tg) (hl : news.length = m) (hr : RbT w B A news) (hbytes : n + m ≤ 4398046511104) (hbase : base ≤ w.heap.size) :
    ∃ A' c' w', (appK #[30, 30] 30 #[v, .slice A m c]).run Try.prog w = .ok (.slice A' (n + m) c') w' ∧ App base 80 2 w v w' (.slice A' (n + m) c') (n + m) (tgs (l ++ news)) := by
  obtain ⟨i0, hi0, hz0, hz1, hz2⟩ := info_parts tginfo
  obtain ⟨v', w', hrun, h2, h3, h4, ⟨A', c', rfl⟩, h6⟩ := run_app (P := Try.prog) w base 30 30 80 i0 _ 2 32 Try.underlying30 hi0 hz0 hz1 hz2 rfl (by omega) v n (tgs l) hown B A m c (tgs news) (by rw [tgs_length, hl]) hr (tgs_one news) (by simp only [maxLen]; omega) (by omega) hbase
  rw [← tgs_append] at h2
  exact ⟨A', c', w', hrun, (App.refl hown).step h2 h3 h4⟩

theorem spC_one (s : Sp) (A : Option Addr) (n c : Nat) : (spC s A n c).all (·.oneCell') = true := by simp [Value.oneCell']
theorem zspC_one : zspC.all (·.oneCell') = true := by simp [Value.oneCell']
theorem Bk.row {w : World} {g : Nat} {t : TypeId} {old : Array Value} (h : Bk w g t old) (cs : Array Value) : Bk (w.setRow g cs) g t cs := setRow_heap w g old cs t (0, 0) h
theorem only_row {w : World} (g : Nat) (cs : Array Value) : w.grownBy (w.setRow g cs) (some g) :=
  ⟨rfl, rfl, rfl, by simp [World.setRow], fun i hi hne => by simp [World.setRow, Array.getElem?_modify]; intro e; subst e; exact absurd rfl hne⟩
end Go.Proofs.Ytchpekidnbdpdaa


/- A whole struct loaded: kept shut to the walk's simp, and told by an equation. -/
namespace Go.Proofs.Ytchpekidnbdpdaa
open Go.RowKit

def loadK (t : TypeId) (a : Addr) : Sem Value := loadVar t a
theorem loadK_shut (t : TypeId) (a : Addr) : loadVar t a = loadK t a := rfl
end Go.Proofs.Ytchpekidnbdpdaa


/- Lists of spans: how they lie in memory; bootprintkit.SmallSpans, SameSpans. -/
namespace Go.Proofs.Ytchpekidnbdpdaa
open Go.RowKit

/-- A span as it lies: itself, and its tags' slice. -/
structure El where
  s : Sp
  A : Option Addr
  n : Nat
  c : Nat
def elC (e : El) : List Value := (spC e.s e.A e.n e.c).toList
theorem elC_length (e : El) : (elC e).length = 11 := rfl
def els (l : List El) : List Value := l.flatMap elC
theorem els_length (l : List El) : (els l).length = l.length * 11 := by
  induction l with
  | nil => rfl
  | cons e l ih =>
    have : els (e :: l) = elC e ++ els l := rfl
    rw [this, List.length_append, ih, elC_length, List.length_cons]
    omega
theorem els_append (a b : List El) : els (a ++ b) = els a ++ els b := by simp [els]
theorem els_get : ∀ {l : List El} {i : Nat} {e : El}, l[i]? = some e → ∀ j, j < 11 → (els l)[i * 11 + j]? = (elC e)[j]? := by
  intro l
  induction l with
  | nil => intro i e h; simp at h
  | cons u l ih =>
    intro i e h j hj
    have q : els (u :: l) = elC u ++ els l := rfl
    rw [q]
    cases i with
    | zero =>
      simp at h
      subst h
      rw [List.getElem?_append_left (by rw [elC_length]; omega), Nat.zero_mul, Nat.zero_add]
    | succ i =>
      have := ih (i := i) (e := e) (by simpa using h) j hj
      rw [List.getElem?_append_right (by rw [elC_length]; omega), elC_length, show (i + 1) * 11 + j - 11 = i * 11 + j from by omega]
      exact this
theorem els_one (l : List El) : ∀ u ∈ els l, u.oneCell' = true := by
  intro u hu
  obtain ⟨e, _, he⟩ := List.mem_flatMap.1 hu
  have := spC_one e.s e.A e.n e.c
  rw [Array.all_eq_true'] at this
  exact this u (by simpa [elC] using he)
theorem els_take (l : List El) (k : Nat) : (els l).take (k * 11) = els (l.take k) := by
  induction l generalizing k with
  | nil => simp [els]
  | cons e l ih =>
    cases k with
    | zero => simp [els]
    | succ k =>
      have q : els (e :: l) = elC e ++ els l := rfl
      have q2 : els ((e :: l).take (k + 1)) = elC e ++ els (l.take k) := rfl
      rw [q, q2, ← ih k, List.take_append, elC_length, List.take_of_length_le (by rw [elC_length]; omega), show (k + 1) * 11 - 11 = k * 11 from by omega]
theorem els_drop (l : List El) (k : Nat) : (els l).drop (k * 11) = els (l.drop k) := by
  induction l generalizing k with
  | nil => simp [els]
  | cons e l ih =>
    cases k with
    | zero => simp [els]
    | succ k =>
      have q : els (e :: l) = elC e ++ els l := rfl
      have q2 : els ((e :: l).drop (k + 1)) = els (l.drop k) := rfl
      rw [q, q2, ← ih k, List.drop_append, elC_length, List.drop_eq_nil_of_le (by rw [elC_length]; omega), show (k + 1) * 11 - 11 = k * 11 from by omega, List.nil_append]
/-- A span's tags lie where it says. -/
structure ElOk (w : World) (B : Nat) (e : El) : Prop where
  rd : RbT w B e.A e.s.tags
  len : e.s.tags.length = e.n
  max : e.n ≤ 9223372036854775807
theorem ElOk.below {w w' : World} {B : Nat} {e : El} (h : ElOk w B e) (hb : Below B w w') : ElOk w' B e := ⟨Rd.below h.rd hb, h.len, h.max⟩
theorem ElOk.more {w : World} {B B' : Nat} {e : El} (h : ElOk w B e) (hb : B ≤ B') : ElOk w B' e := ⟨Rd.more h.rd hb, h.len, h.max⟩
/-- Spans that lie from A on, and their tags. -/
structure RbS (w : World) (B : Nat) (A : Option Addr) (l : List El) : Prop where
  rd : Rd w B A (els l)
  ok : ∀ e ∈ l, ElOk w B e
section
variable {w w' : World} {B B' : Nat} {A : Option Addr} {l : List El}
theorem RbS.nil : RbS w B A [] := ⟨Rd.nil, fun _ h => by cases h⟩
theorem RbS.below (h : RbS w B A l) (hb : Below B w w') : RbS w' B A l := ⟨Rd.below h.rd hb, fun e he => (h.ok e he).below hb⟩
theorem RbS.more (h : RbS w B A l) (hB : B ≤ B') : RbS w B' A l := ⟨Rd.more h.rd hB, fun e he => (h.ok e he).more hB⟩
theorem RbS.bS (h : RbS w w.heap.size A l) (hb : Below w.heap.size w w') : RbS w' w'.heap.size A l := (h.below hb).more hb.size
theorem RbS.drewN (h : RbS w B A l) (k : Nat) : RbS (w.drewN k) B A l := ⟨Rd.drewN h.rd k, fun e he => ⟨Rd.drewN (h.ok e he).rd k, (h.ok e he).len, (h.ok e he).max⟩⟩
theorem RbS.get (h : RbS w B A l) {i : Nat} {e : El} (hi : l[i]? = some e) :
    ∃ b o, A = some ⟨b, o, none⟩ ∧ b < B ∧ (∀ j, j < 11 → w.cell? ⟨b, o + i * 11 + j, none⟩ = (elC e)[j]?) ∧ ElOk w B e := by
  have hl := (List.getElem?_eq_some_iff.1 hi).1
  obtain ⟨b, o, hA, hb, hc⟩ := h.rd (by intro e0; have := els_length l; rw [e0, List.length_nil] at this; omega)
  refine ⟨b, o, hA, hb, fun j hj => ?_, h.ok e (List.mem_of_getElem? hi)⟩
  have h1 := els_get hi j hj
  have h2 : j < (elC e).length := by rw [elC_length]; exact hj
  rw [List.getElem?_eq_getElem h2] at h1 ⊢
  rw [Nat.add_assoc]
  exact hc _ _ h1
end
/-- The load of a whole span out of a row, shut. -/
theorem run_loadVar_cells {P : Program} (w : World) (ty : TypeId) (d : TypeDesc) (a : Addr) (xs : List Value) (hu : P.underlying ty = some d) (hd : (match d with | .struct _ | .array _ _ => true | _ => false) = true) (hi : (P.info? ty).map (·.size) = some xs.length)
    (hc : ∀ j v, xs[j]? = some v → w.cell? (a.add j) = some v) : (loadVar ty a).run P w = .ok (.agg xs.toArray) w := by
  have hl := run_loadCells_list (P := P) w a xs hc
  cases hq : P.info? ty with
  | none => simp [hq] at hi
  | some i =>
    have hs : i.size = xs.length := by simpa [hq] using hi
    have hagg : (isAgg ty).run P w = .ok true w := by
      unfold isAgg
      rw [Sem.run_bind, run_underlying hu w]
      cases d <;> simp_all
    simp [loadVar, Sem.run_bind, hagg, sizeOf, typeInfo, hq, hs, hl]
set_option maxRecDepth 100000 in
theorem loadK_el {w : World} {b o : Nat} {e : El} (h : ∀ j, j < 11 → w.cell? ⟨b, o + j, none⟩ = (elC e)[j]?) : (loadK 32 ⟨b, o, none⟩).run Try.prog w = .ok (spV e.s e.A e.n e.c) w :=
  run_loadVar_cells w _ _ ⟨b, o, none⟩ (elC e) Try.underlying32 rfl (by rfl) (fun j v hv => by
    have hj : j < 11 := by have := (List.getElem?_eq_some_iff.1 hv).1; rwa [elC_length] at this
    rw [Addr.add_lit, h j hj, hv])
set_option maxRecDepth 100000 in
theorem loadK_sp {w : World} {g n c : Nat} {s : Sp} {A : Option Addr} (h : Bk w g 32 (spC s A n c)) : (loadK 32 ⟨g, 0, none⟩).run Try.prog w = .ok (spV s A n c) w :=
  run_loadVar_row w g _ _ (spC s A n c) (0, 0) _ h Try.underlying32 rfl (by rfl)
end Go.Proofs.Ytchpekidnbdpdaa


/- Numbers and strings stand in one of three ways. -/
namespace Go.Proofs.Ytchpekidnbdpdaa
open Go.RowKit

def cmpI (x y : Int) : Int := if x < y then -1 else if y < x then 1 else 0
theorem strEq_of' {s t : ByteArray} : (s.toList == t.toList) = decide (s = t) := by
  rw [ByteArray.toList_eq, ByteArray.toList_eq, Bool.eq_iff_iff, beq_iff_eq, decide_eq_true_iff]
  exact ⟨fun h => ByteArray.ext (Array.ext' h), fun h => by rw [h]⟩
def cmpS (s t : ByteArray) : Int := if strLt s t = true then -1 else if s = t then 0 else 1
theorem stw_ltb (s t : ByteArray) : strLt s t = ltb (nums s) (nums t) := by
  have := ltb_str (nums_byt s) (nums_byt t)
  rw [strOf_nums, strOf_nums] at this
  exact this
theorem stw_irr : ∀ (a : List Int), ltb a a = false
  | [] => rfl
  | x :: a => by rw [ltb, stw_irr a]; simp
theorem stw_tr : ∀ (a b c : List Int), ltb a b = true → ltb b c = true → ltb a c = true
  | a, [], _, h, _ => by simp [ltb] at h
  | _, y :: b, [], _, h => by simp [ltb] at h
  | [], _ :: _, _ :: _, _, _ => rfl
  | x :: a, y :: b, z :: c, h1, h2 => by
    simp only [ltb, Bool.or_eq_true, Bool.and_eq_true, decide_eq_true_eq] at h1 h2 ⊢
    rcases h1 with h1 | ⟨h1, h1'⟩
    · rcases h2 with h2 | ⟨h2, _⟩ <;> exact .inl (by omega)
    · rcases h2 with h2 | ⟨h2, h2'⟩
      · exact .inl (by omega)
      · exact .inr ⟨by omega, stw_tr a b c h1' h2'⟩
theorem stw_tri : ∀ (a b : List Int), ltb a b = false → ltb b a = false → a = b
  | [], [], _, _ => rfl
  | [], _ :: _, h, _ => by cases h
  | _ :: _, [], _, h => by cases h
  | x :: a, y :: b, h1, h2 => by
    simp only [ltb, Bool.or_eq_false_iff, Bool.and_eq_false_iff, decide_eq_false_iff_not] at h1 h2
    have hxy : x = y := by omega
    subst hxy
    rw [stw_tri a b (by rcases h1.2 with h | h; · exact absurd rfl h
                        · exact h) (by rcases h2.2 with h | h; · exact absurd rfl h
                                       · exact h)]
theorem strLt_ways (s t : ByteArray) : (strLt s t = true ∧ cmpS s t = -1) ∨ (strLt s t = false ∧ strLt t s = true ∧ cmpS s t = 1) ∨ (strLt s t = false ∧ strLt t s = false ∧ cmpS s t = 0) := by
  cases h1 : strLt s t with
  | true => exact .inl ⟨rfl, by rw [cmpS, if_pos h1]⟩
  | false =>
    cases h2 : strLt t s with
    | true =>
      refine .inr (.inl ⟨rfl, rfl, ?_⟩)
      have hne : s ≠ t := fun e => by subst e; rw [h1] at h2; cases h2
      rw [cmpS, h1, if_neg hne]
      simp
    | false =>
      refine .inr (.inr ⟨rfl, rfl, ?_⟩)
      rw [stw_ltb] at h1 h2
      have := nums_inj (stw_tri _ _ h1 h2)
      subst this
      rw [cmpS, stw_ltb, h1]
      simp
end Go.Proofs.Ytchpekidnbdpdaa

