/- Words for memory that all texts of this seat use: cells that read as a list, a block that is known whole, an append onto a row of the call's own. Plain lemmas over any program. -/
import Derived.WalkKit
import Derived.WalkSpells
import Derived.WalkLawsBesides
import Derived.Handy
import Derived.Below
import Derived.Laws.OwnMore
import Derived.Deep.AppendLies
import Derived.Deep.Draws
import Derived.Deep.QuietTactic
import Derived.BigQuiet
import Derived.Maps.AppendAt
import Derived.RegionTactic
import Derived.OwnWalk
import Derived.Lib.Hide
import Derived.Laws.BytesArg
namespace Go.Proofs.Ythaiplhjekkooaa
open Go.RowKit

/-- From address A on, below block B, lie the cells xs. -/
def Rd (w : World) (B : Nat) (A : Option Addr) (xs : List Value) : Prop :=
  xs ≠ [] → ∃ b o, A = some ⟨b, o, none⟩ ∧ b < B ∧ ∀ j u, xs[j]? = some u → w.cell? ⟨b, o + j, none⟩ = some u

section
variable {w w' : World} {B B' : Nat} {A : Option Addr} {xs : List Value}
theorem Rd.nil : Rd w B A [] := fun h => absurd rfl h
theorem Rd.get {k : Nat} {u : Value} (h : Rd w B A xs) (hk : xs[k]? = some u) : ∃ b o, A = some ⟨b, o, none⟩ ∧ b < B ∧ w.cell? ⟨b, o + k, none⟩ = some u := by
  obtain ⟨b, o, e, hb, hc⟩ := h (by rintro rfl; simp at hk)
  exact ⟨b, o, e, hb, hc k u hk⟩
theorem Rd.keep (h : Rd w B A xs) (hk : ∀ p : Addr, p.block < B → w'.cell? p = w.cell? p) : Rd w' B A xs := fun hn => by
  obtain ⟨b, o, e, hb, hc⟩ := h hn
  exact ⟨b, o, e, hb, fun j u hu => (hk ⟨b, o + j, none⟩ hb).trans (hc j u hu)⟩
theorem Rd.more (h : Rd w B A xs) (hB : B ≤ B') : Rd w B' A xs := fun hn => by
  obtain ⟨b, o, e, hb, hc⟩ := h hn
  exact ⟨b, o, e, by omega, hc⟩
theorem Rd.below (h : Rd w B A xs) (hb : Below B w w') : Rd w' B A xs := h.keep fun _ hp => hb.cell hp
theorem Rd.drew (h : Rd w B A xs) : Rd w.drew B A xs := h
theorem Rd.drewN (h : Rd w B A xs) (k : Nat) : Rd (w.drewN k) B A xs := h
theorem Rd.alloc (h : Rd w B A xs) (hB : B ≤ w.heap.size) (o : Obj) : Rd (w.alloc o) B A xs := h.keep fun p hp => World.cell?_alloc_lt w o p (by omega)
theorem Rd.set (h : Rd w B A xs) {p : Addr} (hB : B ≤ p.block) (u : Value) : Rd (w.setCell p u) B A xs :=
  h.keep fun q hq => World.cell?_setCell_other w p q u (fun e => by subst e; omega)
theorem Rd.grown (h : Rd w B A xs) {row : Option Nat} (hg : w.grownBy w' row) (hB : B ≤ w.heap.size) (hr : ∀ g, row = some g → B ≤ g) : Rd w' B A xs :=
  h.keep fun p hp => World.cell?_of_block (hg.block p.block (by omega) (fun e => by have := hr _ e.symm; omega))
/-- The cells from k on. The address as the model writes it. -/
theorem Rd.drop (h : Rd w B A xs) {k cap : Nat} (hc : xs.length ≤ cap) : Rd w B (if cap = k then A else A.map (·.add k)) (xs.drop k) := fun hn => by
  have hl : k < xs.length := by
    rcases Nat.lt_or_ge k xs.length with h1 | h1
    · exact h1
    · exact absurd (List.drop_eq_nil_of_le h1) hn
  obtain ⟨b, o, rfl, hb, hcell⟩ := h (by rintro rfl; simp at hl)
  rw [if_neg (by omega)]
  refine ⟨b, o + k, by simp [Addr.add_lit], hb, fun j u hu => ?_⟩
  rw [Nat.add_assoc]
  exact hcell _ u (by rw [← hu, List.getElem?_drop])
theorem Rd.take (h : Rd w B A xs) (k : Nat) : Rd w B A (xs.take k) := fun hn => by
  obtain ⟨b, o, e, hb, hc⟩ := h (by rintro rfl; simp at hn)
  refine ⟨b, o, e, hb, fun j u hu => hc j u ?_⟩
  rw [List.getElem?_take] at hu
  split at hu
  · exact hu
  · cases hu
theorem Rd.of_own {base n c size : Nat} {e : TypeId} (h : w.ownsRow base e size (.slice A n c) n xs) : Rd w w.heap.size A xs := fun hn => by
  have hn0 : 0 < n := by
    rcases Nat.eq_zero_or_pos n with h0 | h0
    · exact absurd (List.eq_nil_of_length_eq_zero (by rw [h.1, h0, Nat.zero_mul])) hn
    · exact h0
  obtain ⟨g, cap, hv, _, hlt⟩ := h.form hn0
  have hA : A = some ⟨g, 0, none⟩ := by injection hv
  subst hA
  refine ⟨g, 0, rfl, hlt, fun j u hu => ?_⟩
  have := h.cells (g := g) rfl j u hu
  rwa [Addr.add_lit] at this
end

section
variable {w w' : World} {A : Option Addr} {xs : List Value}
/-- The same, the bound being the heap's own size. -/
theorem Rd.belowS (h : Rd w w.heap.size A xs) (hb : Below w.heap.size w w') : Rd w' w'.heap.size A xs := (h.below hb).more hb.size
theorem Rd.allocS (h : Rd w w.heap.size A xs) (o : Obj) : Rd (w.alloc o) (w.alloc o).heap.size A xs := (h.alloc (Nat.le_refl _) o).more (by simp)
theorem Rd.grownS {row : Option Nat} (h : Rd w w.heap.size A xs) (hg : w.grownBy w' row) (hs : ∀ a, A = some a → row ≠ some a.block) : Rd w' w'.heap.size A xs := fun hn => by
  obtain ⟨b, o, rfl, hb, hc⟩ := h hn
  exact ⟨b, o, rfl, Nat.lt_of_lt_of_le hb hg.size, fun j u hu => (World.cell?_of_block (a := ⟨b, o + j, none⟩) (hg.block b hb (fun e => hs _ rfl e.symm))).trans (hc j u hu)⟩
end
/-- A block that has just been laid. -/
theorem Rd.lit (w : World) (cs : Array Value) (t : TypeId) : Rd (w.alloc (.cells cs t)) (w.heap.size + 1) (some ⟨w.heap.size, 0, none⟩) cs.toList := fun _ =>
  ⟨w.heap.size, 0, rfl, by omega, fun j u hu => by
    rw [cell_of_row _ w.heap.size (0 + j) cs t (0, 0) (heap_alloc_new w _)]
    simpa using hu⟩

theorem Rd.lit' {w : World} {cs : Array Value} {t : TypeId} {g : Nat} (hg : w.heap.size = g) : Rd (w.alloc (.cells cs t)) (g + 1) (some ⟨g, 0, none⟩) cs.toList := by
  subst hg
  exact Rd.lit w cs t

/-- Block g is just the cells cs of element type t, none of them frozen. -/
def Bk (w : World) (g : Nat) (t : TypeId) (cs : Array Value) : Prop := w.heap[g]? = some (.cells cs t (0, 0))
section
variable {w w' : World} {g : Nat} {t : TypeId} {cs : Array Value}
theorem Bk.lt (h : Bk w g t cs) : g < w.heap.size := (Array.getElem?_eq_some_iff.1 h).1
theorem Bk.cell (h : Bk w g t cs) (i : Nat) : w.cell? ⟨g, i, none⟩ = cs[i]? := cell_of_row w g i cs t (0, 0) h
theorem Bk.frozen (h : Bk w g t cs) (i : Nat) : w.frozen? ⟨g, i, none⟩ = false := by
  unfold Bk at h
  simp [World.frozen?, h]
theorem Bk.new (w : World) (t : TypeId) (cs : Array Value) : Bk (w.alloc (.cells cs t)) w.heap.size t cs := heap_alloc_new w _
theorem Bk.drew (h : Bk w g t cs) : Bk w.drew g t cs := h
theorem Bk.drewN (h : Bk w g t cs) (n : Nat) : Bk (w.drewN n) g t cs := h
theorem Bk.alloc (h : Bk w g t cs) (o : Obj) : Bk (w.alloc o) g t cs := (Below.heap_alloc w o g h.lt).trans h
theorem Bk.set (h : Bk w g t cs) (i : Nat) (u : Value) : Bk (w.setCell ⟨g, i, none⟩ u) g t (cs.setIfInBounds i u) := by
  unfold Bk at h ⊢
  simp [World.setCell, Array.getElem?_modify, h]
theorem Bk.far (h : Bk w g t cs) {p : Addr} (hp : g ≠ p.block) (u : Value) : Bk (w.setCell p u) g t cs := (Below.heap_setCell w p u g hp).trans h
theorem Bk.below {B : Nat} (h : Bk w g t cs) (hb : Below B w w') (hg : g < B) : Bk w' g t cs := (hb.block g hg).trans h
theorem Bk.grown {row : Option Nat} (h : Bk w g t cs) (hb : w.grownBy w' row) (hg : some g ≠ row) : Bk w' g t cs := (hb.block g h.lt hg).trans h
end

theorem below_drewN {B : Nat} {a w : World} (h : Below B a w) (n : Nat) : Below B a (w.drewN n) := ⟨h.os, h.tape, h.output, h.size, h.block⟩
theorem below_all {a w : World} (h : ∃ n, w = a.drewN n) (B : Nat) : Below B a w := by obtain ⟨n, rfl⟩ := h; exact below_drewN (Below.refl _ _) n

/-! ### append of cells that read as a list (nil, empty or not) onto a row of the call's own -/
section
variable {P : Program} (w : World)
theorem run_app (base : Nat) (t ty e : TypeId) (i : TypeInfo) (z : Value) (size bytes : Nat) (ht : P.underlying t = some (.slice e)) (hi : P.info? e = some i) (hz : i.zero = some z)
    (hsize : i.size = size) (hby : i.bytes = bytes) (hzs : z.cells.size = size) (hsz : 0 < size)
    (v : Value) (n : Nat) (xs : List Value) (hown : w.ownsRow base e size v n xs)
    (B : Nat) (A : Option Addr) (m c : Nat) (news : List Value) (hl : news.length = m * size) (hr : Rd w B A news) (h1 : ∀ u ∈ news, u.oneCell' = true)
    (h63 : n + m ≤ maxLen) (hbytes : (n + m) * bytes ≤ 140737488355328) (hbase : base ≤ w.heap.size) :
    ∃ v' w', (Builtin.append_ #[t, t] ty #[v, .slice A m c]).run P w = .ok v' w' ∧ w'.ownsRow base e size v' (n + m) (xs ++ news) ∧ w.grownBy w' v.ownBlock ∧
      (v'.ownBlock = v.ownBlock ∨ v'.ownBlock = some w.heap.size) ∧ (∃ A' c', v' = .slice A' (n + m) c') ∧ (v' = .slice none 0 0 → v = .slice none 0 0 ∧ m = 0) := by
  have form : ∀ {W : World} {v' : Value} {k : Nat} {ys : List Value}, W.ownsRow base e size v' k ys → ∃ A' c', v' = .slice A' k c' := by
    intro W v' k ys h
    rcases h.2 with ⟨rfl, rfl⟩ | ⟨g, cap, cur, rfl, _⟩
    · exact ⟨none, 0, rfl⟩
    · exact ⟨_, cap, rfl⟩
  by_cases hm : m = 0
  · subst hm
    have hn : news = [] := List.eq_nil_of_length_eq_zero (by simpa using hl)
    subst hn
    rcases A with _ | ad
    · refine ⟨v, w, ?_, by simpa using hown, World.grownBy.refl w _, .inl rfl, by simpa using form hown, fun h => ⟨h, rfl⟩⟩
      rcases hown.2 with ⟨rfl, rfl⟩ | ⟨g, cap, cur, rfl, _, _, hnc, _⟩
      · simp [Builtin.append_, run_underlying ht, sizeOf, typeInfo, hi, Builtin.lenOf, Builtin.firstCells]
      · simp [Builtin.append_, run_underlying ht, sizeOf, typeInfo, hi, Builtin.lenOf, Builtin.firstCells, hnc, storeCells]
    · obtain ⟨v', w', hrun, h2, h3, h4, h5⟩ := run_append_own_at (P := P) w base t ty e i z size bytes ht hi hz hsize hby hzs hsz v n xs hown ad 0 c [] hl (fun j u hu => by simp at hu) h1 h63 hbytes hbase
      exact ⟨v', w', hrun, h2, h3, h5, form h2, fun h => h4.1 h⟩
  · have hne : news ≠ [] := by
      rintro rfl
      have := Nat.mul_pos (Nat.pos_of_ne_zero hm) hsz
      simp at hl
      omega
    obtain ⟨b, o, rfl, hb, hc⟩ := hr hne
    obtain ⟨v', w', hrun, h2, h3, h4, h5⟩ := run_append_own_at (P := P) w base t ty e i z size bytes ht hi hz hsize hby hzs hsz v n xs hown ⟨b, o, none⟩ m c news hl (fun j u hu => by rw [Addr.add_lit]; exact hc j u hu) h1 h63 hbytes hbase
    exact ⟨v', w', hrun, h2, h3, h5, form h2, fun h => h4.1 h⟩

theorem wp_app {o : Oper} {a : Act} {K : Act → World → Prop} {Q : Exit → Act → World → Prop} (s x : Operand) (t : TypeId)
    (ho : o.op = .call { callee := .builtin .append, args := #[s, x], argTypes := #[t, t] })
    (base : Nat) (e : TypeId) (i : TypeInfo) (z : Value) (size bytes : Nat) (ht : P.underlying t = some (.slice e)) (hi : P.info? e = some i) (hz : i.zero = some z)
    (hsize : i.size = size) (hby : i.bytes = bytes) (hzs : z.cells.size = size) (hsz : 0 < size)
    (v : Value) (n : Nat) (xs : List Value) (hs : a.eval s = v) (hown : w.ownsRow base e size v n xs)
    (B : Nat) (A : Option Addr) (m c : Nat) (news : List Value) (hx : a.eval x = .slice A m c) (hl : news.length = m * size) (hr : Rd w B A news) (h1 : ∀ u ∈ news, u.oneCell' = true)
    (h63 : n + m ≤ maxLen) (hbytes : (n + m) * bytes ≤ 140737488355328) (hbase : base ≤ w.heap.size)
    (h : ∀ A' c' w', w'.ownsRow base e size (.slice A' (n + m) c') (n + m) (xs ++ news) → w.grownBy w' v.ownBlock → ((Value.slice A' (n + m) c').ownBlock = v.ownBlock ∨ (Value.slice A' (n + m) c').ownBlock = some w.heap.size) →
      (A' = none → v = .slice none 0 0 ∧ m = 0) → K (a.put o.dst (.slice A' (n + m) c')) w') : o.wp P a w K Q := by
  obtain ⟨v', w', hrun, h2, h3, h4, ⟨A', c', rfl⟩, h6⟩ := run_app (P := P) w base t o.type e i z size bytes ht hi hz hsize hby hzs hsz v n xs hown B A m c news hl hr h1 h63 hbytes hbase
  unfold Oper.wp execOp
  simp only [ho, resolve, invoke, builtin, Sem.run_bind, Sem.run_pure, Result.andThen_ok, List.map_toArray, List.map_cons, List.map_nil, hs, hx, hrun]
  refine h A' c' w' h2 h3 h4 (fun hA => h6 ?_)
  subst hA
  rcases h2.2 with ⟨e1, _⟩ | ⟨g, cap, cur, e1, _⟩
  · exact e1
  · injection e1 with e1; cases e1

theorem wpList_app {ops : Array Oper} {rest : List Oper} {o : Oper} {a : Act} {Q : Exit → Act → World → Prop} (hgd : o.guard = none) (s x : Operand) (t : TypeId)
    (ho : o.op = .call { callee := .builtin .append, args := #[s, x], argTypes := #[t, t] })
    (base : Nat) (e : TypeId) (i : TypeInfo) (z : Value) (size bytes : Nat) (ht : P.underlying t = some (.slice e)) (hi : P.info? e = some i) (hz : i.zero = some z)
    (hsize : i.size = size) (hby : i.bytes = bytes) (hzs : z.cells.size = size) (hsz : 0 < size)
    (v : Value) (n : Nat) (xs : List Value) (hs : a.eval s = v) (hown : w.ownsRow base e size v n xs)
    (B : Nat) (A : Option Addr) (m c : Nat) (news : List Value) (hx : a.eval x = .slice A m c) (hl : news.length = m * size) (hr : Rd w B A news) (h1 : ∀ u ∈ news, u.oneCell' = true)
    (h63 : n + m ≤ maxLen) (hbytes : (n + m) * bytes ≤ 140737488355328) (hbase : base ≤ w.heap.size)
    (h : ∀ A' c' w', w'.ownsRow base e size (.slice A' (n + m) c') (n + m) (xs ++ news) → w.grownBy w' v.ownBlock → ((Value.slice A' (n + m) c').ownBlock = v.ownBlock ∨ (Value.slice A' (n + m) c').ownBlock = some w.heap.size) →
      (A' = none → v = .slice none 0 0 ∧ m = 0) → wpList P ops Q rest (a.put o.dst (.slice A' (n + m) c')) w') : wpList P ops Q (o :: rest) a w :=
  wpList_plain hgd fun _ hK => wp_app w s x t ho base e i z size bytes ht hi hz hsize hby hzs hsz v n xs hs hown B A m c news hx hl hr h1 h63 hbytes hbase fun A' c' w' h2 h3 h4 h5 => hK _ _ (h A' c' w' h2 h3 h4 h5)
end

/-! ### bytes -/
def bv (zs : List Int) : List Value := zs.map (Value.int .u8)
theorem bv_length (zs : List Int) : (bv zs).length = zs.length := by simp [bv]
theorem bv_append (a b : List Int) : bv (a ++ b) = bv a ++ bv b := by simp [bv]
theorem bv_take (a : List Int) (k : Nat) : (bv a).take k = bv (a.take k) := by simp [bv]
theorem bv_drop (a : List Int) (k : Nat) : (bv a).drop k = bv (a.drop k) := by simp [bv]
theorem bv_get {zs : List Int} {k : Nat} {x : Int} (hk : zs[k]? = some x) : (bv zs)[k]? = some (.int .u8 x) := by simp [bv, hk]
theorem bv_one (zs : List Int) : ∀ u ∈ bv zs, u.oneCell' = true := by
  intro u hu
  obtain ⟨x, _, rfl⟩ := List.mem_map.1 hu
  rfl
/-- Each is a byte. -/
def Byt (zs : List Int) : Prop := ∀ x ∈ zs, 0 ≤ x ∧ x ≤ 255
theorem Byt.of {zs : List Int} (h : (zs.all fun x => decide (0 ≤ x) && decide (x ≤ 255)) = true) : Byt zs := fun x hx => by
  have := List.all_eq_true.1 h x hx
  simpa using this
theorem Byt.get {zs : List Int} (h : Byt zs) {k : Nat} {x : Int} (hk : zs[k]? = some x) : 0 ≤ x ∧ x ≤ 255 := h x (List.mem_of_getElem? hk)
theorem Byt.append {a b : List Int} (h : Byt a) (k : Byt b) : Byt (a ++ b) := fun x hx => (List.mem_append.1 hx).elim (h x) (k x)
theorem Byt.take {a : List Int} (h : Byt a) (k : Nat) : Byt (a.take k) := fun x hx => h x (List.mem_of_mem_take hx)
theorem Byt.drop {a : List Int} (h : Byt a) (k : Nat) : Byt (a.drop k) := fun x hx => h x (List.mem_of_mem_drop hx)
/-- The bytes zs lie from A on. -/
abbrev Rb (w : World) (B : Nat) (A : Option Addr) (zs : List Int) : Prop := Rd w B A (bv zs)
theorem Rb.get {w : World} {B : Nat} {A : Option Addr} {zs : List Int} (h : Rb w B A zs) {k : Nat} (hk : k < zs.length) :
    ∃ b o x, zs[k]? = some x ∧ A = some ⟨b, o, none⟩ ∧ b < B ∧ w.cell? ⟨b, o + k, none⟩ = some (.int .u8 x) := by
  have e := List.getElem?_eq_getElem hk
  obtain ⟨b, o, h1, h2, h3⟩ := Rd.get h (bv_get e)
  exact ⟨b, o, zs[k], e, h1, h2, h3⟩

/-! ### 'w' is w, but for an append in place onto the owned slice v, which has become v'' -/
structure App (base : Nat) (e : TypeId) (size : Nat) (w : World) (v : Value) (w' : World) (v' : Value) (n : Nat) (xs : List Value) : Prop where
  own : w'.ownsRow base e size v' n xs
  grown : w.grownBy w' v.ownBlock
  block : v'.ownBlock = v.ownBlock ∨ ∃ k, v'.ownBlock = some k ∧ w.heap.size ≤ k
section
variable {base : Nat} {e : TypeId} {size n n' : Nat} {w w' w2 : World} {v v' v2 : Value} {xs ys : List Value}
theorem App.refl (h : w.ownsRow base e size v n xs) : App base e size w v w v n xs := ⟨h, World.grownBy.refl w _, .inl rfl⟩
theorem grown_row {a b c : World} {r r' : Option Nat} (h : a.grownBy b r) (k : b.grownBy c r') (hr : r' = r ∨ ∃ g, r' = some g ∧ a.heap.size ≤ g) : a.grownBy c r :=
  ⟨k.os.trans h.os, k.tape.trans h.tape, k.output.trans h.output, Nat.le_trans h.size k.size, fun i hi hne => (k.block i (Nat.lt_of_lt_of_le hi h.size) (by
    rcases hr with rfl | ⟨g, rfl, hg⟩
    · exact hne
    · intro e; injection e with e; omega)).trans (h.block i hi hne)⟩
theorem App.trans (h : App base e size w v w' v' n xs) (k : App base e size w' v' w2 v2 n' ys) : App base e size w v w2 v2 n' ys := by
  refine ⟨k.own, grown_row h.grown k.grown h.block, ?_⟩
  rcases k.block with hb | ⟨g, hg, hl⟩
  · rcases h.block with hb' | ⟨g, hg, hl⟩
    · exact .inl (hb.trans hb')
    · exact .inr ⟨g, hb.trans hg, hl⟩
  · exact .inr ⟨g, hg, Nat.le_trans h.grown.size hl⟩
theorem App.drewN (h : App base e size w v w' v' n xs) (k : Nat) : App base e size w v (w'.drewN k) v' n xs :=
  ⟨h.own, ⟨h.grown.os, h.grown.tape, h.grown.output, h.grown.size, h.grown.block⟩, h.block⟩
theorem App.drew (h : App base e size w v w' v' n xs) : App base e size w v w'.drew v' n xs :=
  ⟨h.own, ⟨h.grown.os, h.grown.tape, h.grown.output, h.grown.size, h.grown.block⟩, h.block⟩
theorem App.alloc (h : App base e size w v w' v' n xs) (o : Obj) : App base e size w v (w'.alloc o) v' n xs :=
  ⟨h.own.alloc o, ⟨h.grown.os, h.grown.tape, h.grown.output, by have := h.grown.size; simp; omega, fun i hi hne => (Below.heap_alloc w' o i (Nat.lt_of_lt_of_le hi h.grown.size)).trans (h.grown.block i hi hne)⟩, h.block⟩
/-- One append more, as the law hands it over (a box for what is appended was laid ahead of it, or not). -/
theorem App.step (h : App base e size w v w' v' n xs) {w1 : World} (ho : w1.ownsRow base e size v2 n' ys) (hg : w'.grownBy w1 v'.ownBlock) (hb : v2.ownBlock = v'.ownBlock ∨ v2.ownBlock = some w'.heap.size) : App base e size w v w1 v2 n' ys :=
  h.trans ⟨ho, hg, hb.imp id fun h => ⟨_, h, Nat.le_refl _⟩⟩
/-- What was made since w, seen from w: an append onto nil. -/
theorem App.fresh {w1 : World} (h : App base e size w1 v w' v' n xs) (hg : w.grownBy w1 none) (hv : ∀ k, v.ownBlock = some k → w.heap.size ≤ k) : App base e size w (.slice none 0 0) w' v' n xs := by
  have hr : v.ownBlock = none ∨ ∃ g, v.ownBlock = some g ∧ w.heap.size ≤ g := by
    cases hb : v.ownBlock with
    | none => exact .inl rfl
    | some k => exact .inr ⟨k, rfl, hv k hb⟩
  refine ⟨h.own, grown_row hg h.grown hr, ?_⟩
  rcases h.block with hb | ⟨g, hb, hl⟩
  · rcases hr with hr | ⟨g, hr, hl⟩
    · exact .inl (hb.trans hr)
    · exact .inr ⟨g, hb.trans hr, hl⟩
  · exact .inr ⟨g, hb, Nat.le_trans hg.size hl⟩
theorem App.fresh1 {o : Obj} (h : App base e size (w.alloc o) (.slice (some ⟨w.heap.size, 0, none⟩) 0 0) w' v' n xs) : App base e size w (.slice none 0 0) w' v' n xs :=
  h.fresh (World.grownBy_alloc w o none) (fun k hk => by simp [Value.ownBlock] at hk; omega)
theorem App.below0 (h : App base e size w (.slice none 0 0) w' v' n xs) : Below w.heap.size w w' :=
  ⟨h.grown.os, h.grown.tape, h.grown.output, h.grown.size, fun k hk => h.grown.block k hk (by simp [Value.ownBlock])⟩
theorem App.below {B : Nat} (h : App base e size w v w' v' n xs) (hB : B ≤ w.heap.size) (hv : ∀ k, v.ownBlock = some k → B ≤ k) : Below B w w' :=
  ⟨h.grown.os, h.grown.tape, h.grown.output, h.grown.size, fun k hk => h.grown.block k (by omega) (fun e => by have := hv k e.symm; omega)⟩
/-- A store into the row. -/
theorem App.set {g c : Nat} (h : App base e size w v w' (.slice (some ⟨g, 0, none⟩) n c) n xs) (j : Nat) (u : Value) : App base e size w v (w'.setCell ⟨g, j, none⟩ u) (.slice (some ⟨g, 0, none⟩) n c) n (xs.set j u) :=
  h.trans ⟨(h.own.stored j u).1, (h.own.stored j u).2, .inl rfl⟩
/-- What is done beside it leaves it. -/
theorem App.later (h : App base e size w v w' v' n xs) (hb : Below w'.heap.size w' w2) : App base e size w v w2 v' n xs :=
  ⟨h.own.kept (row := none) ⟨hb.os, hb.tape, hb.output, hb.size, fun k hk _ => hb.block k hk⟩ (by cases v'.ownBlock <;> simp),
    ⟨hb.os.trans h.grown.os, hb.tape.trans h.grown.tape, hb.output.trans h.grown.output, Nat.le_trans h.grown.size hb.size, fun k hk hne => (hb.block k (Nat.lt_of_lt_of_le hk h.grown.size)).trans (h.grown.block k hk hne)⟩, h.block⟩
theorem App.heap (h : App base e size w v w' v' n xs) : w.heap.size ≤ w'.heap.size := h.grown.size
end
theorem grown_below {a b : World} {B : Nat} {r : Option Nat} (h : a.grownBy b r) (hB : B ≤ a.heap.size) (hr : ∀ k, r = some k → B ≤ k) : Below B a b :=
  ⟨h.os, h.tape, h.output, h.size, fun k hk => h.block k (by omega) (fun e => by have := hr k e.symm; omega)⟩
/-- A slice value's length is its row's. -/
theorem own_length {w : World} {base n : Nat} {e : TypeId} {v : Value} {xs : List Value} (h : w.ownsRow base e 1 v n xs) : xs.length = n := by have := h.1; omega

/-- The call returns a slice that it has made. -/
def RetNew (e : TypeId) (size : Nat) (w : World) (n : Nat) (xs : List Value) (P : Option Addr → Prop) (en : Ending) (w' : World) : Prop :=
  ∃ A' c', en = .returned (.slice A' n c') ∧ App w.heap.size e size w (.slice none 0 0) w' (.slice A' n c') n xs ∧ P A'
/-- The call returns a slice that it has made, and more. -/
def RetNew2 (e : TypeId) (size : Nat) (w : World) (n : Nat) (xs : List Value) (r : Value) (P : Option Addr → Prop) (en : Ending) (w' : World) : Prop :=
  ∃ A' c', en = .returned (.tuple #[.slice A' n c', r]) ∧ App w.heap.size e size w (.slice none 0 0) w' (.slice A' n c') n xs ∧ P A'
/-- The call returns a slice that was appended to. -/
def RetApp (base : Nat) (e : TypeId) (size : Nat) (w : World) (v : Value) (n : Nat) (xs : List Value) (P : Option Addr → Prop) (en : Ending) (w' : World) : Prop :=
  ∃ A' c', en = .returned (.slice A' n c') ∧ App base e size w v w' (.slice A' n c') n xs ∧ P A'

theorem Rb.take {w : World} {B : Nat} {A : Option Addr} {zs : List Int} (h : Rb w B A zs) (k : Nat) : Rb w B A (zs.take k) := by
  have := Rd.take h k
  rwa [bv_take] at this
theorem Rb.drop {w : World} {B : Nat} {A : Option Addr} {zs : List Int} (h : Rb w B A zs) {k cap : Nat} (hc : zs.length ≤ cap) : Rb w B (if cap = k then A else A.map (·.add k)) (zs.drop k) := by
  have := Rd.drop (k := k) (cap := cap) h (by rw [bv_length]; exact hc)
  rwa [bv_drop] at this
/-- A string's bytes as numbers. -/
def nums (s : ByteArray) : List Int := s.data.toList.map fun c => (c.toNat : Int)
theorem nums_len (s : ByteArray) : (nums s).length = s.size := by rw [nums, List.length_map, Array.length_toList]; rfl
theorem nums_get {s : ByteArray} {k : Nat} (h : k < s.size) : (nums s)[k]? = some ((s[k]'h).toNat : Int) := by
  have h' : k < s.data.size := h
  rw [nums, List.getElem?_map, Array.getElem?_toList, Array.getElem?_eq_getElem h']
  rfl
theorem nums_byt (s : ByteArray) : Byt (nums s) := by
  intro x hx
  obtain ⟨c, _, rfl⟩ := List.mem_map.1 hx
  have := c.toNat_lt
  omega
theorem strOf_nums (s : ByteArray) : strOfNums (nums s) = s := by
  apply ByteArray.ext
  apply Array.ext'
  rw [strOfNums_data, nums, List.map_map]
  conv => rhs; rw [← List.map_id s.data.toList]
  apply List.map_congr_left
  intro c _
  simp
theorem nums_strOf {zs : List Int} (h : Byt zs) : nums (strOfNums zs) = zs := by
  unfold nums
  rw [strOfNums_data, List.map_map]
  conv => rhs; rw [← List.map_id zs]
  apply List.map_congr_left
  intro x hx
  have := h x hx
  simp [UInt8.toNat_ofNat']
  omega
theorem nums_inj {s t : ByteArray} (h : nums s = nums t) : s = t := by rw [← strOf_nums s, ← strOf_nums t, h]

/-- Two slices whose cells lie in two blocks. -/
def Sep (A A1 : Option Addr) : Prop := ∀ a b, A = some a → A1 = some b → a.block ≠ b.block
theorem Sep.symm {A A1 : Option Addr} (h : Sep A A1) : Sep A1 A := fun a b ha hb e => h b a hb ha e.symm
theorem Sep.none_left {A : Option Addr} : Sep none A := fun _ _ h => by cases h
theorem Sep.none_right {A : Option Addr} : Sep A none := fun _ _ _ h => by cases h
/-- What lies below the base of a row lies in another block than the row. -/
theorem Sep.of_own {w : World} {base n c size B : Nat} {e : TypeId} {A A1 : Option Addr} {xs : List Value} (h : w.ownsRow base e size (.slice A n c) n xs) (h1 : ∀ a, A1 = some a → a.block < B) (hB : B ≤ base) : Sep A A1 := fun a b ha hb e => by
  subst ha
  have := (h.lt a.block rfl).1
  have := h1 b hb
  omega
theorem Rd.apart {w w' : World} {B n c : Nat} {A A1 : Option Addr} {xs : List Value} (h : Rd w B A1 xs) (hB : B ≤ w.heap.size) (hg : w.grownBy w' (Value.slice A n c).ownBlock) (hs : Sep A A1) : Rd w' B A1 xs := fun hn => by
  obtain ⟨b, o, rfl, hb, hc⟩ := h hn
  refine ⟨b, o, rfl, hb, fun j u hu => ?_⟩
  rw [World.cell?_of_block (w := w) (a := ⟨b, o + j, none⟩) (hg.block b (by omega) ?_)]
  · exact hc j u hu
  · intro e
    cases A with
    | none => simp [Value.ownBlock] at e
    | some a =>
      simp [Value.ownBlock] at e
      exact hs a _ rfl rfl e.symm

/-- A slice that was made, as its readers want it. -/
theorem App.rd {ty : TypeId} {w w' : World} {A : Option Addr} {n c base : Nat} {v : Value} {xs : List Value} (h : App base ty 1 w v w' (.slice A n c) n xs) : Rd w' w'.heap.size A xs := Rd.of_own h.own
theorem App.cap {ty : TypeId} {w w' : World} {A : Option Addr} {n c base : Nat} {v : Value} {xs : List Value} (h : App base ty 1 w v w' (.slice A n c) n xs) : n ≤ c := by
  rcases h.own.2 with ⟨h1, h2⟩ | ⟨_, _, _, h1, _, _, h2, _⟩
  · omega
  · injection h1 with _ _ h3; omega
theorem App.lo {ty : TypeId} {size : Nat} {w w' : World} {A : Option Addr} {n c : Nat} {xs : List Value} (h : App w.heap.size ty size w (.slice none 0 0) w' (.slice A n c) n xs) : ∀ a, A = some a → w.heap.size ≤ a.block ∧ a.block < w'.heap.size := fun a ha => by
  subst ha
  exact h.own.lt a.block rfl

/-! ### 'string(b)' -/
theorem Rb.str {P : Program} {w : World} {B : Nat} {A : Option Addr} {zs : List Int} (h : Rb w B A zs) {src e dst : TypeId} (hs : P.underlying src = some (.slice e)) (he : P.underlying e = some (.int .u8)) (hd : P.underlying dst = some .string) (c : Nat) :
    (convert src dst (.slice A zs.length c)).run P w = .ok (.string (strOfNums zs)) w := by
  by_cases hz : zs = []
  · subst hz
    cases A with
    | none => exact run_convert_bytes_nil w src e hs he 0 c dst hd
    | some a =>
      rw [run_convert_bytes_string w src dst e _ _ c hs he hd]
      simp [Conv.bytesToString, loadCells]
      rfl
  · obtain ⟨b, o, rfl, hb, hc⟩ := h (by simpa [bv] using hz)
    refine run_convert_bytes_arg w src e hs he b o zs.length c zs rfl (fun i hi => ?_) dst hd
    rw [hc i _ (bv_get (List.getElem?_eq_getElem hi))]
    simp [List.getD, List.getElem?_eq_getElem hi]
end Go.Proofs.Ythaiplhjekkooaa
