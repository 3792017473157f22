/- Texts of the proof of SchemaApartSaid, joined: Lib Byt Off MpI ScA Clone Kit WireM. -/
import Derived.WalkKit
import Derived.WalkSpells
import Derived.WalkLawsBesides
import Derived.Handy
import Derived.Below
import Derived.Laws.OwnMore
import Derived.Deep.AppendLies
import Derived.Deep.Draws
import Derived.Deep.QuietTactic
import Derived.BigQuiet
import Derived.Maps.AppendAt
import Derived.RegionTactic
import Derived.OwnWalk
import Derived.Lib.Hide
import Derived.Laws.BytesArg
import Derived.Test.YtlamebbolioljaaProg
import Derived.Lib.SliceRun
import Derived.MapKept
import Derived.ChangeMaps4
/- Words for memory that all texts of this seat use: cells that read as a list, a block that is known whole, an append onto a row of the call's own. Plain lemmas over any program. -/
namespace Go.Proofs.Ytlamebbolioljaa
open Go.RowKit

/-- From address A on, below block B, lie the cells xs. -/
def Rd (w : World) (B : Nat) (A : Option Addr) (xs : List Value) : Prop :=
  xs ≠ [] → ∃ b o, A = some ⟨b, o, none⟩ ∧ b < B ∧ ∀ j u, xs[j]? = some u → w.cell? ⟨b, o + j, none⟩ = some u

section
variable {w w' : World} {B B' : Nat} {A : Option Addr} {xs : List Value}
theorem Rd.nil : Rd w B A [] := fun h => absurd rfl h
theorem Rd.get {k : Nat} {u : Value} (h : Rd w B A xs) (hk : xs[k]? = some u) : ∃ b o, A = some ⟨b, o, none⟩ ∧ b < B ∧ w.cell? ⟨b, o + k, none⟩ = some u := by
  obtain ⟨b, o, e, hb, hc⟩ := h (by rintro rfl; simp at hk)
  exact ⟨b, o, e, hb, hc k u hk⟩
theorem Rd.keep (h : Rd w B A xs) (hk : ∀ p : Addr, p.block < B → w'.cell? p = w.cell? p) : Rd w' B A xs := fun hn => by
  obtain ⟨b, o, e, hb, hc⟩ := h hn
  exact ⟨b, o, e, hb, fun j u hu => (hk ⟨b, o + j, none⟩ hb).trans (hc j u hu)⟩
theorem Rd.more (h : Rd w B A xs) (hB : B ≤ B') : Rd w B' A xs := fun hn => by
  obtain ⟨b, o, e, hb, hc⟩ := h hn
  exact ⟨b, o, e, by omega, hc⟩
theorem Rd.below (h : Rd w B A xs) (hb : Below B w w') : Rd w' B A xs := h.keep fun _ hp => hb.cell hp
theorem Rd.drew (h : Rd w B A xs) : Rd w.drew B A xs := h
theorem Rd.drewN (h : Rd w B A xs) (k : Nat) : Rd (w.drewN k) B A xs := h
theorem Rd.alloc (h : Rd w B A xs) (hB : B ≤ w.heap.size) (o : Obj) : Rd (w.alloc o) B A xs := h.keep fun p hp => World.cell?_alloc_lt w o p (by omega)
theorem Rd.set (h : Rd w B A xs) {p : Addr} (hB : B ≤ p.block) (u : Value) : Rd (w.setCell p u) B A xs :=
  h.keep fun q hq => World.cell?_setCell_other w p q u (fun e => by subst e; omega)
theorem Rd.grown (h : Rd w B A xs) {row : Option Nat} (hg : w.grownBy w' row) (hB : B ≤ w.heap.size) (hr : ∀ g, row = some g → B ≤ g) : Rd w' B A xs :=
  h.keep fun p hp => World.cell?_of_block (hg.block p.block (by omega) (fun e => by have := hr _ e.symm; omega))
/-- The cells from k on. The address as the model writes it. -/
theorem Rd.drop (h : Rd w B A xs) {k cap : Nat} (hc : xs.length ≤ cap) : Rd w B (if cap = k then A else A.map (·.add k)) (xs.drop k) := fun hn => by
  have hl : k < xs.length := by
    rcases Nat.lt_or_ge k xs.length with h1 | h1
    · exact h1
    · exact absurd (List.drop_eq_nil_of_le h1) hn
  obtain ⟨b, o, rfl, hb, hcell⟩ := h (by rintro rfl; simp at hl)
  rw [if_neg (by omega)]
  refine ⟨b, o + k, by simp [Addr.add_lit], hb, fun j u hu => ?_⟩
  rw [Nat.add_assoc]
  exact hcell _ u (by rw [← hu, List.getElem?_drop])
theorem Rd.take (h : Rd w B A xs) (k : Nat) : Rd w B A (xs.take k) := fun hn => by
  obtain ⟨b, o, e, hb, hc⟩ := h (by rintro rfl; simp at hn)
  refine ⟨b, o, e, hb, fun j u hu => hc j u ?_⟩
  rw [List.getElem?_take] at hu
  split at hu
  · exact hu
  · cases hu
theorem Rd.of_own {base n c size : Nat} {e : TypeId} (h : w.ownsRow base e size (.slice A n c) n xs) : Rd w w.heap.size A xs := fun hn => by
  have hn0 : 0 < n := by
    rcases Nat.eq_zero_or_pos n with h0 | h0
    · exact absurd (List.eq_nil_of_length_eq_zero (by rw [h.1, h0, Nat.zero_mul])) hn
    · exact h0
  obtain ⟨g, cap, hv, _, hlt⟩ := h.form hn0
  have hA : A = some ⟨g, 0, none⟩ := by injection hv
  subst hA
  refine ⟨g, 0, rfl, hlt, fun j u hu => ?_⟩
  have := h.cells (g := g) rfl j u hu
  rwa [Addr.add_lit] at this
end

section
variable {w w' : World} {A : Option Addr} {xs : List Value}
/-- The same, the bound being the heap's own size. -/
theorem Rd.belowS (h : Rd w w.heap.size A xs) (hb : Below w.heap.size w w') : Rd w' w'.heap.size A xs := (h.below hb).more hb.size
theorem Rd.allocS (h : Rd w w.heap.size A xs) (o : Obj) : Rd (w.alloc o) (w.alloc o).heap.size A xs := (h.alloc (Nat.le_refl _) o).more (by simp)
theorem Rd.grownS {row : Option Nat} (h : Rd w w.heap.size A xs) (hg : w.grownBy w' row) (hs : ∀ a, A = some a → row ≠ some a.block) : Rd w' w'.heap.size A xs := fun hn => by
  obtain ⟨b, o, rfl, hb, hc⟩ := h hn
  exact ⟨b, o, rfl, Nat.lt_of_lt_of_le hb hg.size, fun j u hu => (World.cell?_of_block (a := ⟨b, o + j, none⟩) (hg.block b hb (fun e => hs _ rfl e.symm))).trans (hc j u hu)⟩
end
/-- A block that has just been laid. -/
theorem Rd.lit (w : World) (cs : Array Value) (t : TypeId) : Rd (w.alloc (.cells cs t)) (w.heap.size + 1) (some ⟨w.heap.size, 0, none⟩) cs.toList := fun _ =>
  ⟨w.heap.size, 0, rfl, by omega, fun j u hu => by
    rw [cell_of_row _ w.heap.size (0 + j) cs t (0, 0) (heap_alloc_new w _)]
    simpa using hu⟩

theorem Rd.lit' {w : World} {cs : Array Value} {t : TypeId} {g : Nat} (hg : w.heap.size = g) : Rd (w.alloc (.cells cs t)) (g + 1) (some ⟨g, 0, none⟩) cs.toList := by
  subst hg
  exact Rd.lit w cs t

/-- Block g is just the cells cs of element type t, none of them frozen. -/
def Bk (w : World) (g : Nat) (t : TypeId) (cs : Array Value) : Prop := w.heap[g]? = some (.cells cs t (0, 0))
section
variable {w w' : World} {g : Nat} {t : TypeId} {cs : Array Value}
theorem Bk.lt (h : Bk w g t cs) : g < w.heap.size := (Array.getElem?_eq_some_iff.1 h).1
theorem Bk.cell (h : Bk w g t cs) (i : Nat) : w.cell? ⟨g, i, none⟩ = cs[i]? := cell_of_row w g i cs t (0, 0) h
theorem Bk.frozen (h : Bk w g t cs) (i : Nat) : w.frozen? ⟨g, i, none⟩ = false := by
  unfold Bk at h
  simp [World.frozen?, h]
theorem Bk.new (w : World) (t : TypeId) (cs : Array Value) : Bk (w.alloc (.cells cs t)) w.heap.size t cs := heap_alloc_new w _
theorem Bk.drew (h : Bk w g t cs) : Bk w.drew g t cs := h
theorem Bk.drewN (h : Bk w g t cs) (n : Nat) : Bk (w.drewN n) g t cs := h
theorem Bk.alloc (h : Bk w g t cs) (o : Obj) : Bk (w.alloc o) g t cs := (Below.heap_alloc w o g h.lt).trans h
theorem Bk.set (h : Bk w g t cs) (i : Nat) (u : Value) : Bk (w.setCell ⟨g, i, none⟩ u) g t (cs.setIfInBounds i u) := by
  unfold Bk at h ⊢
  simp [World.setCell, Array.getElem?_modify, h]
theorem Bk.far (h : Bk w g t cs) {p : Addr} (hp : g ≠ p.block) (u : Value) : Bk (w.setCell p u) g t cs := (Below.heap_setCell w p u g hp).trans h
theorem Bk.below {B : Nat} (h : Bk w g t cs) (hb : Below B w w') (hg : g < B) : Bk w' g t cs := (hb.block g hg).trans h
theorem Bk.grown {row : Option Nat} (h : Bk w g t cs) (hb : w.grownBy w' row) (hg : some g ≠ row) : Bk w' g t cs := (hb.block g h.lt hg).trans h
end

theorem below_drewN {B : Nat} {a w : World} (h : Below B a w) (n : Nat) : Below B a (w.drewN n) := ⟨h.os, h.tape, h.output, h.size, h.block⟩
theorem below_all {a w : World} (h : ∃ n, w = a.drewN n) (B : Nat) : Below B a w := by obtain ⟨n, rfl⟩ := h; exact below_drewN (Below.refl _ _) n

/-! ### append of cells that read as a list (nil, empty or not) onto a row of the call's own -/
section
variable {P : Program} (w : World)
theorem run_app (base : Nat) (t ty e : TypeId) (i : TypeInfo) (z : Value) (size bytes : Nat) (ht : P.underlying t = some (.slice e)) (hi : P.info? e = some i) (hz : i.zero = some z)
    (hsize : i.size = size) (hby : i.bytes = bytes) (hzs : z.cells.size = size) (hsz : 0 < size)
    (v : Value) (n : Nat) (xs : List Value) (hown : w.ownsRow base e size v n xs)
    (B : Nat) (A : Option Addr) (m c : Nat) (news : List Value) (hl : news.length = m * size) (hr : Rd w B A news) (h1 : ∀ u ∈ news, u.oneCell' = true)
    (h63 : n + m ≤ maxLen) (hbytes : (n + m) * bytes ≤ 140737488355328) (hbase : base ≤ w.heap.size) :
    ∃ v' w', (Builtin.append_ #[t, t] ty #[v, .slice A m c]).run P w = .ok v' w' ∧ w'.ownsRow base e size v' (n + m) (xs ++ news) ∧ w.grownBy w' v.ownBlock ∧
      (v'.ownBlock = v.ownBlock ∨ v'.ownBlock = some w.heap.size) ∧ (∃ A' c', v' = .slice A' (n + m) c') ∧ (v' = .slice none 0 0 → v = .slice none 0 0 ∧ m = 0) := by
  have form : ∀ {W : World} {v' : Value} {k : Nat} {ys : List Value}, W.ownsRow base e size v' k ys → ∃ A' c', v' = .slice A' k c' := by
    intro W v' k ys h
    rcases h.2 with ⟨rfl, rfl⟩ | ⟨g, cap, cur, rfl, _⟩
    · exact ⟨none, 0, rfl⟩
    · exact ⟨_, cap, rfl⟩
  by_cases hm : m = 0
  · subst hm
    have hn : news = [] := List.eq_nil_of_length_eq_zero (by simpa using hl)
    subst hn
    rcases A with _ | ad
    · refine ⟨v, w, ?_, by simpa using hown, World.grownBy.refl w _, .inl rfl, by simpa using form hown, fun h => ⟨h, rfl⟩⟩
      rcases hown.2 with ⟨rfl, rfl⟩ | ⟨g, cap, cur, rfl, _, _, hnc, _⟩
      · simp [Builtin.append_, run_underlying ht, sizeOf, typeInfo, hi, Builtin.lenOf, Builtin.firstCells]
      · simp [Builtin.append_, run_underlying ht, sizeOf, typeInfo, hi, Builtin.lenOf, Builtin.firstCells, hnc, storeCells]
    · obtain ⟨v', w', hrun, h2, h3, h4, h5⟩ := run_append_own_at (P := P) w base t ty e i z size bytes ht hi hz hsize hby hzs hsz v n xs hown ad 0 c [] hl (fun j u hu => by simp at hu) h1 h63 hbytes hbase
      exact ⟨v', w', hrun, h2, h3, h5, form h2, fun h => h4.1 h⟩
  · have hne : news ≠ [] := by
      rintro rfl
      have := Nat.mul_pos (Nat.pos_of_ne_zero hm) hsz
      simp at hl
      omega
    obtain ⟨b, o, rfl, hb, hc⟩ := hr hne
    obtain ⟨v', w', hrun, h2, h3, h4, h5⟩ := run_append_own_at (P := P) w base t ty e i z size bytes ht hi hz hsize hby hzs hsz v n xs hown ⟨b, o, none⟩ m c news hl (fun j u hu => by rw [Addr.add_lit]; exact hc j u hu) h1 h63 hbytes hbase
    exact ⟨v', w', hrun, h2, h3, h5, form h2, fun h => h4.1 h⟩

theorem wp_app {o : Oper} {a : Act} {K : Act → World → Prop} {Q : Exit → Act → World → Prop} (s x : Operand) (t : TypeId)
    (ho : o.op = .call { callee := .builtin .append, args := #[s, x], argTypes := #[t, t] })
    (base : Nat) (e : TypeId) (i : TypeInfo) (z : Value) (size bytes : Nat) (ht : P.underlying t = some (.slice e)) (hi : P.info? e = some i) (hz : i.zero = some z)
    (hsize : i.size = size) (hby : i.bytes = bytes) (hzs : z.cells.size = size) (hsz : 0 < size)
    (v : Value) (n : Nat) (xs : List Value) (hs : a.eval s = v) (hown : w.ownsRow base e size v n xs)
    (B : Nat) (A : Option Addr) (m c : Nat) (news : List Value) (hx : a.eval x = .slice A m c) (hl : news.length = m * size) (hr : Rd w B A news) (h1 : ∀ u ∈ news, u.oneCell' = true)
    (h63 : n + m ≤ maxLen) (hbytes : (n + m) * bytes ≤ 140737488355328) (hbase : base ≤ w.heap.size)
    (h : ∀ A' c' w', w'.ownsRow base e size (.slice A' (n + m) c') (n + m) (xs ++ news) → w.grownBy w' v.ownBlock → ((Value.slice A' (n + m) c').ownBlock = v.ownBlock ∨ (Value.slice A' (n + m) c').ownBlock = some w.heap.size) →
      (A' = none → v = .slice none 0 0 ∧ m = 0) → K (a.put o.dst (.slice A' (n + m) c')) w') : o.wp P a w K Q := by
  obtain ⟨v', w', hrun, h2, h3, h4, ⟨A', c', rfl⟩, h6⟩ := run_app (P := P) w base t o.type e i z size bytes ht hi hz hsize hby hzs hsz v n xs hown B A m c news hl hr h1 h63 hbytes hbase
  unfold Oper.wp execOp
  simp only [ho, resolve, invoke, builtin, Sem.run_bind, Sem.run_pure, Result.andThen_ok, List.map_toArray, List.map_cons, List.map_nil, hs, hx, hrun]
  refine h A' c' w' h2 h3 h4 (fun hA => h6 ?_)
  subst hA
  rcases h2.2 with ⟨e1, _⟩ | ⟨g, cap, cur, e1, _⟩
  · exact e1
  · injection e1 with e1; cases e1

theorem wpList_app {ops : Array Oper} {rest : List Oper} {o : Oper} {a : Act} {Q : Exit → Act → World → Prop} (hgd : o.guard = none) (s x : Operand) (t : TypeId)
    (ho : o.op = .call { callee := .builtin .append, args := #[s, x], argTypes := #[t, t] })
    (base : Nat) (e : TypeId) (i : TypeInfo) (z : Value) (size bytes : Nat) (ht : P.underlying t = some (.slice e)) (hi : P.info? e = some i) (hz : i.zero = some z)
    (hsize : i.size = size) (hby : i.bytes = bytes) (hzs : z.cells.size = size) (hsz : 0 < size)
    (v : Value) (n : Nat) (xs : List Value) (hs : a.eval s = v) (hown : w.ownsRow base e size v n xs)
    (B : Nat) (A : Option Addr) (m c : Nat) (news : List Value) (hx : a.eval x = .slice A m c) (hl : news.length = m * size) (hr : Rd w B A news) (h1 : ∀ u ∈ news, u.oneCell' = true)
    (h63 : n + m ≤ maxLen) (hbytes : (n + m) * bytes ≤ 140737488355328) (hbase : base ≤ w.heap.size)
    (h : ∀ A' c' w', w'.ownsRow base e size (.slice A' (n + m) c') (n + m) (xs ++ news) → w.grownBy w' v.ownBlock → ((Value.slice A' (n + m) c').ownBlock = v.ownBlock ∨ (Value.slice A' (n + m) c').ownBlock = some w.heap.size) →
      (A' = none → v = .slice none 0 0 ∧ m = 0) → wpList P ops Q rest (a.put o.dst (.slice A' (n + m) c')) w') : wpList P ops Q (o :: rest) a w :=
  wpList_plain hgd fun _ hK => wp_app w s x t ho base e i z size bytes ht hi hz hsize hby hzs hsz v n xs hs hown B A m c news hx hl hr h1 h63 hbytes hbase fun A' c' w' h2 h3 h4 h5 => hK _ _ (h A' c' w' h2 h3 h4 h5)
end

/-! ### bytes -/
def bv (zs : List Int) : List Value := zs.map (Value.int .u8)
theorem bv_length (zs : List Int) : (bv zs).length = zs.length := by simp [bv]
theorem bv_append (a b : List Int) : bv (a ++ b) = bv a ++ bv b := by simp [bv]
theorem bv_take (a : List Int) (k : Nat) : (bv a).take k = bv (a.take k) := by simp [bv]
theorem bv_drop (a : List Int) (k : Nat) : (bv a).drop k = bv (a.drop k) := by simp [bv]
theorem bv_get {zs : List Int} {k : Nat} {x : Int} (hk : zs[k]? = some x) : (bv zs)[k]? = some (.int .u8 x) := by simp [bv, hk]
theorem bv_one (zs : List Int) : ∀ u ∈ bv zs, u.oneCell' = true := by
  intro u hu
  obtain ⟨x, _, rfl⟩ := List.mem_map.1 hu
  rfl
/-- Each is a byte. -/
def Byt (zs : List Int) : Prop := ∀ x ∈ zs, 0 ≤ x ∧ x ≤ 255
theorem Byt.of {zs : List Int} (h : (zs.all fun x => decide (0 ≤ x) && decide (x ≤ 255)) = true) : Byt zs := fun x hx => by
  have := List.all_eq_true.1 h x hx
  simpa using this
theorem Byt.get {zs : List Int} (h : Byt zs) {k : Nat} {x : Int} (hk : zs[k]? = some x) : 0 ≤ x ∧ x ≤ 255 := h x (List.mem_of_getElem? hk)
theorem Byt.append {a b : List Int} (h : Byt a) (k : Byt b) : Byt (a ++ b) := fun x hx => (List.mem_append.1 hx).elim (h x) (k x)
theorem Byt.take {a : List Int} (h : Byt a) (k : Nat) : Byt (a.take k) := fun x hx => h x (List.mem_of_mem_take hx)
theorem Byt.drop {a : List Int} (h : Byt a) (k : Nat) : Byt (a.drop k) := fun x hx => h x (List.mem_of_mem_drop hx)
/-- The bytes zs lie from A on. -/
abbrev Rb (w : World) (B : Nat) (A : Option Addr) (zs : List Int) : Prop := Rd w B A (bv zs)
theorem Rb.get {w : World} {B : Nat} {A : Option Addr} {zs : List Int} (h : Rb w B A zs) {k : Nat} (hk : k < zs.length) :
    ∃ b o x, zs[k]? = some x ∧ A = some ⟨b, o, none⟩ ∧ b < B ∧ w.cell? ⟨b, o + k, none⟩ = some (.int .u8 x) := by
  have e := List.getElem?_eq_getElem hk
  obtain ⟨b, o, h1, h2, h3⟩ := Rd.get h (bv_get e)
  exact ⟨b, o, zs[k], e, h1, h2, h3⟩

/-! ### 'w' is w, but for an append in place onto the owned slice v, which has become v'' -/
structure App (base : Nat) (e : TypeId) (size : Nat) (w : World) (v : Value) (w' : World) (v' : Value) (n : Nat) (xs : List Value) : Prop where
  own : w'.ownsRow base e size v' n xs
  grown : w.grownBy w' v.ownBlock
  block : v'.ownBlock = v.ownBlock ∨ ∃ k, v'.ownBlock = some k ∧ w.heap.size ≤ k
section
variable {base : Nat} {e : TypeId} {size n n' : Nat} {w w' w2 : World} {v v' v2 : Value} {xs ys : List Value}
theorem App.refl (h : w.ownsRow base e size v n xs) : App base e size w v w v n xs := ⟨h, World.grownBy.refl w _, .inl rfl⟩
theorem grown_row {a b c : World} {r r' : Option Nat} (h : a.grownBy b r) (k : b.grownBy c r') (hr : r' = r ∨ ∃ g, r' = some g ∧ a.heap.size ≤ g) : a.grownBy c r :=
  ⟨k.os.trans h.os, k.tape.trans h.tape, k.output.trans h.output, Nat.le_trans h.size k.size, fun i hi hne => (k.block i (Nat.lt_of_lt_of_le hi h.size) (by
    rcases hr with rfl | ⟨g, rfl, hg⟩
    · exact hne
    · intro e; injection e with e; omega)).trans (h.block i hi hne)⟩
theorem App.trans (h : App base e size w v w' v' n xs) (k : App base e size w' v' w2 v2 n' ys) : App base e size w v w2 v2 n' ys := by
  refine ⟨k.own, grown_row h.grown k.grown h.block, ?_⟩
  rcases k.block with hb | ⟨g, hg, hl⟩
  · rcases h.block with hb' | ⟨g, hg, hl⟩
    · exact .inl (hb.trans hb')
    · exact .inr ⟨g, hb.trans hg, hl⟩
  · exact .inr ⟨g, hg, Nat.le_trans h.grown.size hl⟩
theorem App.drewN (h : App base e size w v w' v' n xs) (k : Nat) : App base e size w v (w'.drewN k) v' n xs :=
  ⟨h.own, ⟨h.grown.os, h.grown.tape, h.grown.output, h.grown.size, h.grown.block⟩, h.block⟩
theorem App.drew (h : App base e size w v w' v' n xs) : App base e size w v w'.drew v' n xs :=
  ⟨h.own, ⟨h.grown.os, h.grown.tape, h.grown.output, h.grown.size, h.grown.block⟩, h.block⟩
theorem App.alloc (h : App base e size w v w' v' n xs) (o : Obj) : App base e size w v (w'.alloc o) v' n xs :=
  ⟨h.own.alloc o, ⟨h.grown.os, h.grown.tape, h.grown.output, by have := h.grown.size; simp; omega, fun i hi hne => (Below.heap_alloc w' o i (Nat.lt_of_lt_of_le hi h.grown.size)).trans (h.grown.block i hi hne)⟩, h.block⟩
/-- One append more, as the law hands it over (a box for what is appended was laid ahead of it, or not). -/
theorem App.step (h : App base e size w v w' v' n xs) {w1 : World} (ho : w1.ownsRow base e size v2 n' ys) (hg : w'.grownBy w1 v'.ownBlock) (hb : v2.ownBlock = v'.ownBlock ∨ v2.ownBlock = some w'.heap.size) : App base e size w v w1 v2 n' ys :=
  h.trans ⟨ho, hg, hb.imp id fun h => ⟨_, h, Nat.le_refl _⟩⟩
/-- What was made since w, seen from w: an append onto nil. -/
theorem App.fresh {w1 : World} (h : App base e size w1 v w' v' n xs) (hg : w.grownBy w1 none) (hv : ∀ k, v.ownBlock = some k → w.heap.size ≤ k) : App base e size w (.slice none 0 0) w' v' n xs := by
  have hr : v.ownBlock = none ∨ ∃ g, v.ownBlock = some g ∧ w.heap.size ≤ g := by
    cases hb : v.ownBlock with
    | none => exact .inl rfl
    | some k => exact .inr ⟨k, rfl, hv k hb⟩
  refine ⟨h.own, grown_row hg h.grown hr, ?_⟩
  rcases h.block with hb | ⟨g, hb, hl⟩
  · rcases hr with hr | ⟨g, hr, hl⟩
    · exact .inl (hb.trans hr)
    · exact .inr ⟨g, hb.trans hr, hl⟩
  · exact .inr ⟨g, hb, Nat.le_trans hg.size hl⟩
theorem App.fresh1 {o : Obj} (h : App base e size (w.alloc o) (.slice (some ⟨w.heap.size, 0, none⟩) 0 0) w' v' n xs) : App base e size w (.slice none 0 0) w' v' n xs :=
  h.fresh (World.grownBy_alloc w o none) (fun k hk => by simp [Value.ownBlock] at hk; omega)
theorem App.below0 (h : App base e size w (.slice none 0 0) w' v' n xs) : Below w.heap.size w w' :=
  ⟨h.grown.os, h.grown.tape, h.grown.output, h.grown.size, fun k hk => h.grown.block k hk (by simp [Value.ownBlock])⟩
theorem App.below {B : Nat} (h : App base e size w v w' v' n xs) (hB : B ≤ w.heap.size) (hv : ∀ k, v.ownBlock = some k → B ≤ k) : Below B w w' :=
  ⟨h.grown.os, h.grown.tape, h.grown.output, h.grown.size, fun k hk => h.grown.block k (by omega) (fun e => by have := hv k e.symm; omega)⟩
/-- A store into the row. -/
theorem App.set {g c : Nat} (h : App base e size w v w' (.slice (some ⟨g, 0, none⟩) n c) n xs) (j : Nat) (u : Value) : App base e size w v (w'.setCell ⟨g, j, none⟩ u) (.slice (some ⟨g, 0, none⟩) n c) n (xs.set j u) :=
  h.trans ⟨(h.own.stored j u).1, (h.own.stored j u).2, .inl rfl⟩
/-- What is done beside it leaves it. -/
theorem App.later (h : App base e size w v w' v' n xs) (hb : Below w'.heap.size w' w2) : App base e size w v w2 v' n xs :=
  ⟨h.own.kept (row := none) ⟨hb.os, hb.tape, hb.output, hb.size, fun k hk _ => hb.block k hk⟩ (by cases v'.ownBlock <;> simp),
    ⟨hb.os.trans h.grown.os, hb.tape.trans h.grown.tape, hb.output.trans h.grown.output, Nat.le_trans h.grown.size hb.size, fun k hk hne => (hb.block k (Nat.lt_of_lt_of_le hk h.grown.size)).trans (h.grown.block k hk hne)⟩, h.block⟩
theorem App.heap (h : App base e size w v w' v' n xs) : w.heap.size ≤ w'.heap.size := h.grown.size
end
theorem grown_below {a b : World} {B : Nat} {r : Option Nat} (h : a.grownBy b r) (hB : B ≤ a.heap.size) (hr : ∀ k, r = some k → B ≤ k) : Below B a b :=
  ⟨h.os, h.tape, h.output, h.size, fun k hk => h.block k (by omega) (fun e => by have := hr k e.symm; omega)⟩
/-- A slice value's length is its row's. -/
theorem own_length {w : World} {base n : Nat} {e : TypeId} {v : Value} {xs : List Value} (h : w.ownsRow base e 1 v n xs) : xs.length = n := by have := h.1; omega

/-- The call returns a slice that it has made. -/
def RetNew (e : TypeId) (size : Nat) (w : World) (n : Nat) (xs : List Value) (P : Option Addr → Prop) (en : Ending) (w' : World) : Prop :=
  ∃ A' c', en = .returned (.slice A' n c') ∧ App w.heap.size e size w (.slice none 0 0) w' (.slice A' n c') n xs ∧ P A'
/-- The call returns a slice that it has made, and more. -/
def RetNew2 (e : TypeId) (size : Nat) (w : World) (n : Nat) (xs : List Value) (r : Value) (P : Option Addr → Prop) (en : Ending) (w' : World) : Prop :=
  ∃ A' c', en = .returned (.tuple #[.slice A' n c', r]) ∧ App w.heap.size e size w (.slice none 0 0) w' (.slice A' n c') n xs ∧ P A'
/-- The call returns a slice that was appended to. -/
def RetApp (base : Nat) (e : TypeId) (size : Nat) (w : World) (v : Value) (n : Nat) (xs : List Value) (P : Option Addr → Prop) (en : Ending) (w' : World) : Prop :=
  ∃ A' c', en = .returned (.slice A' n c') ∧ App base e size w v w' (.slice A' n c') n xs ∧ P A'

theorem Rb.take {w : World} {B : Nat} {A : Option Addr} {zs : List Int} (h : Rb w B A zs) (k : Nat) : Rb w B A (zs.take k) := by
  have := Rd.take h k
  rwa [bv_take] at this
theorem Rb.drop {w : World} {B : Nat} {A : Option Addr} {zs : List Int} (h : Rb w B A zs) {k cap : Nat} (hc : zs.length ≤ cap) : Rb w B (if cap = k then A else A.map (·.add k)) (zs.drop k) := by
  have := Rd.drop (k := k) (cap := cap) h (by rw [bv_length]; exact hc)
  rwa [bv_drop] at this
/-- A string's bytes as numbers. -/
def nums (s : ByteArray) : List Int := s.data.toList.map fun c => (c.toNat : Int)
theorem nums_len (s : ByteArray) : (nums s).length = s.size := by rw [nums, List.length_map, Array.length_toList]; rfl
theorem nums_get {s : ByteArray} {k : Nat} (h : k < s.size) : (nums s)[k]? = some ((s[k]'h).toNat : Int) := by
  have h' : k < s.data.size := h
  rw [nums, List.getElem?_map, Array.getElem?_toList, Array.getElem?_eq_getElem h']
  rfl
theorem nums_byt (s : ByteArray) : Byt (nums s) := by
  intro x hx
  obtain ⟨c, _, rfl⟩ := List.mem_map.1 hx
  have := c.toNat_lt
  omega
theorem strOf_nums (s : ByteArray) : strOfNums (nums s) = s := by
  apply ByteArray.ext
  apply Array.ext'
  rw [strOfNums_data, nums, List.map_map]
  conv => rhs; rw [← List.map_id s.data.toList]
  apply List.map_congr_left
  intro c _
  simp
theorem nums_strOf {zs : List Int} (h : Byt zs) : nums (strOfNums zs) = zs := by
  unfold nums
  rw [strOfNums_data, List.map_map]
  conv => rhs; rw [← List.map_id zs]
  apply List.map_congr_left
  intro x hx
  have := h x hx
  simp [UInt8.toNat_ofNat']
  omega
theorem nums_inj {s t : ByteArray} (h : nums s = nums t) : s = t := by rw [← strOf_nums s, ← strOf_nums t, h]

/-- Two slices whose cells lie in two blocks. -/
def Sep (A A1 : Option Addr) : Prop := ∀ a b, A = some a → A1 = some b → a.block ≠ b.block
theorem Sep.symm {A A1 : Option Addr} (h : Sep A A1) : Sep A1 A := fun a b ha hb e => h b a hb ha e.symm
theorem Sep.none_left {A : Option Addr} : Sep none A := fun _ _ h => by cases h
theorem Sep.none_right {A : Option Addr} : Sep A none := fun _ _ _ h => by cases h
/-- What lies below the base of a row lies in another block than the row. -/
theorem Sep.of_own {w : World} {base n c size B : Nat} {e : TypeId} {A A1 : Option Addr} {xs : List Value} (h : w.ownsRow base e size (.slice A n c) n xs) (h1 : ∀ a, A1 = some a → a.block < B) (hB : B ≤ base) : Sep A A1 := fun a b ha hb e => by
  subst ha
  have := (h.lt a.block rfl).1
  have := h1 b hb
  omega
theorem Rd.apart {w w' : World} {B n c : Nat} {A A1 : Option Addr} {xs : List Value} (h : Rd w B A1 xs) (hB : B ≤ w.heap.size) (hg : w.grownBy w' (Value.slice A n c).ownBlock) (hs : Sep A A1) : Rd w' B A1 xs := fun hn => by
  obtain ⟨b, o, rfl, hb, hc⟩ := h hn
  refine ⟨b, o, rfl, hb, fun j u hu => ?_⟩
  rw [World.cell?_of_block (w := w) (a := ⟨b, o + j, none⟩) (hg.block b (by omega) ?_)]
  · exact hc j u hu
  · intro e
    cases A with
    | none => simp [Value.ownBlock] at e
    | some a =>
      simp [Value.ownBlock] at e
      exact hs a _ rfl rfl e.symm

/-- A slice that was made, as its readers want it. -/
theorem App.rd {ty : TypeId} {w w' : World} {A : Option Addr} {n c base : Nat} {v : Value} {xs : List Value} (h : App base ty 1 w v w' (.slice A n c) n xs) : Rd w' w'.heap.size A xs := Rd.of_own h.own
theorem App.cap {ty : TypeId} {w w' : World} {A : Option Addr} {n c base : Nat} {v : Value} {xs : List Value} (h : App base ty 1 w v w' (.slice A n c) n xs) : n ≤ c := by
  rcases h.own.2 with ⟨h1, h2⟩ | ⟨_, _, _, h1, _, _, h2, _⟩
  · omega
  · injection h1 with _ _ h3; omega
theorem App.lo {ty : TypeId} {size : Nat} {w w' : World} {A : Option Addr} {n c : Nat} {xs : List Value} (h : App w.heap.size ty size w (.slice none 0 0) w' (.slice A n c) n xs) : ∀ a, A = some a → w.heap.size ≤ a.block ∧ a.block < w'.heap.size := fun a ha => by
  subst ha
  exact h.own.lt a.block rfl

/-! ### 'string(b)' -/
theorem Rb.str {P : Program} {w : World} {B : Nat} {A : Option Addr} {zs : List Int} (h : Rb w B A zs) {src e dst : TypeId} (hs : P.underlying src = some (.slice e)) (he : P.underlying e = some (.int .u8)) (hd : P.underlying dst = some .string) (c : Nat) :
    (convert src dst (.slice A zs.length c)).run P w = .ok (.string (strOfNums zs)) w := by
  by_cases hz : zs = []
  · subst hz
    cases A with
    | none => exact run_convert_bytes_nil w src e hs he 0 c dst hd
    | some a =>
      rw [run_convert_bytes_string w src dst e _ _ c hs he hd]
      simp [Conv.bytesToString, loadCells]
      rfl
  · obtain ⟨b, o, rfl, hb, hc⟩ := h (by simpa [bv] using hz)
    refine run_convert_bytes_arg w src e hs he b o zs.length c zs rfl (fun i hi => ?_) dst hd
    rw [hc i _ (bv_get (List.getElem?_eq_getElem hi))]
    simp [List.getD, List.getElem?_eq_getElem hi]
end Go.Proofs.Ytlamebbolioljaa

/- Lists of bytes: equal, below; slices of bytes against nil; append of bytes. -/
namespace Go.Proofs.Ytlamebbolioljaa
open Go.RowKit

/-- The test of two lists of bytes, opaque to the walk. -/
def eqb (xs ys : List Int) : Bool := decide (xs = ys)
theorem eqb_true {xs ys : List Int} : eqb xs ys = true ↔ xs = ys := by simp [eqb]
theorem take_snoc {α : Type} {l : List α} {k : Nat} {x : α} (h : l[k]? = some x) : l.take (k + 1) = l.take k ++ [x] := by
  rw [List.take_add_one, h]; rfl

/-- Is a list of bytes below another one, in order? -/
def ltb : List Int → List Int → Bool
  | _, [] => false
  | [], _ :: _ => true
  | x :: xs, y :: ys => decide (x < y) || (decide (x = y) && ltb xs ys)
theorem ltb_str : ∀ {xs ys : List Int}, Byt xs → Byt ys → Op.bytesLess (strOfNums xs).toList (strOfNums ys).toList = ltb xs ys := by
  intro xs ys hx hy
  rw [ByteArray.toList_eq, ByteArray.toList_eq, strOfNums_data, strOfNums_data]
  induction xs generalizing ys with
  | nil => cases ys <;> rfl
  | cons x xs ih =>
    cases ys with
    | nil => rfl
    | cons y ys =>
      obtain ⟨a, b⟩ := hx x (by simp)
      obtain ⟨c, d⟩ := hy y (by simp)
      have h1 : (UInt8.ofNat x.toNat < UInt8.ofNat y.toNat) = (x < y) := by
        rw [UInt8.lt_iff_toNat_lt, UInt8.toNat_ofNat', UInt8.toNat_ofNat', Nat.mod_eq_of_lt (by omega), Nat.mod_eq_of_lt (by omega)]
        exact propext ⟨fun h => by omega, fun h => by omega⟩
      have h2 : (UInt8.ofNat x.toNat == UInt8.ofNat y.toNat) = decide (x = y) := by
        rw [Bool.eq_iff_iff, beq_iff_eq, decide_eq_true_iff]
        refine ⟨fun h => ?_, fun h => by rw [h]⟩
        have h := congrArg UInt8.toNat h
        rw [UInt8.toNat_ofNat', UInt8.toNat_ofNat', Nat.mod_eq_of_lt (by omega), Nat.mod_eq_of_lt (by omega)] at h
        omega
      simp only [List.map_cons, Op.bytesLess, ltb, h1, h2]
      rw [ih (fun z hz => hx z (by simp [hz])) (fun z hz => hy z (by simp [hz]))]

@[go_sem] theorem nil_eq_bytes (W : World) (a : Option Addr) (n c n' c' : Nat) : (binOp .eql 27 (.slice a n c) (.slice none n' c')).run Try.prog W = .ok (.bool a.isNone) W :=
  Lib.run_eql_slice_nil W _ _ a n c n' c' Try.underlying27
@[go_sem] theorem nil_ne_bytes (W : World) (a : Option Addr) (n c n' c' : Nat) : (binOp .neq 27 (.slice a n c) (.slice none n' c')).run Try.prog W = .ok (.bool (!a.isNone)) W :=
  run_neq_slice_nil_any W _ _ a n c n' c' Try.underlying27
theorem u8info : (Try.prog.info? 5).map (fun i => (i.zero, i.size, i.bytes)) = some (some (.int .u8 0), 1, 1) := by kernel_rfl

/-- append of bytes onto a row of the call's own. -/
theorem wpList_appb (w : World) {ops : Array Oper} {rest : List Oper} {o : Oper} {a : Act} {Q : Exit → Act → World → Prop} (hgd : o.guard = none) (s x : Operand)
    (ho : o.op = .call { callee := .builtin .append, args := #[s, x], argTypes := #[27, 27] })
    (base : Nat) (v : Value) (n : Nat) (xs : List Int) (hs : a.eval s = v) (hown : w.ownsRow base 5 1 v n (bv xs))
    (B : Nat) (A : Option Addr) (m c : Nat) (news : List Int) (hx : a.eval x = .slice A m c) (hl : news.length = m) (hr : Rb w B A news)
    (hbytes : n + m ≤ 140737488355328) (hbase : base ≤ w.heap.size)
    (h : ∀ A' c' w', App base 5 1 w v w' (.slice A' (n + m) c') (n + m) (bv (xs ++ news)) → (A' = none → v = .slice none 0 0 ∧ m = 0) → wpList Try.prog ops Q rest (a.put o.dst (.slice A' (n + m) c')) w') : wpList Try.prog ops Q (o :: rest) a w := by
  obtain ⟨i0, hi0, hz0, hz1, hz2⟩ := info_parts u8info
  refine wpList_app w hgd s x _ ho base 5 i0 _ 1 1 Try.underlying27 hi0 hz0 hz1 hz2 rfl (by omega) v n (bv xs) hs hown B A m c (bv news) hx (by rw [bv_length]; omega) hr (bv_one news) (by simp only [maxLen]; omega) (by omega) hbase ?_
  intro A' c' w' h1 h2 h3 h4
  rw [← bv_append] at h1
  exact h A' c' w' ((App.refl hown).step h1 h2 h3) h4
end Go.Proofs.Ytlamebbolioljaa

/- A slice's new address, and cutting bytes from a place on. (Lines of ScI.) -/
namespace Go.Proofs.Ytlamebbolioljaa
open Go.RowKit

/-- A slice's address from k on. -/
def offA (a : Option Addr) (c k : Nat) : Option Addr := if c = k then a else a.map (·.add k)
set_option maxRecDepth 100000 in
theorem run_slK (w : World) (a : Option Addr) (n c : Nat) (kl : IntKind) (l : Int) (h0 : 0 ≤ l) (h1 : l ≤ n) :
    (Instr.slice 27 (.slice a n c) (some (.int kl l)) none none).run Try.prog w = .ok (.slice (offA a c l.toNat) (n - l.toNat) (c - l.toNat)) w := by
  have h := run_slice_l (P := Try.prog) w 27 a n c Try.underlying27 kl l h0 h1
  rw [h]
  have hs : (sizeOf (Try.prog.elem 27)).run Try.prog w = .ok 1 w := by kernel_rfl
  rw [hs]
  simp [Result.andThen, sliced, offA]
end Go.Proofs.Ytlamebbolioljaa

/- Maps of integer keys that a call lays out of a literal: one insert, one lookup. -/
namespace Go.Proofs.Ytlamebbolioljaa
open Go.RowKit Go.MapKept

/-- Block b is just this map. -/
def Mp (w : World) (b : Nat) (es : Array MapEntry) : Prop := w.heap[b]? = some (.map es es.size)
section
variable {w w' : World} {b : Nat} {es : Array MapEntry}
theorem Mp.lt (h : Mp w b es) : b < w.heap.size := (Array.getElem?_eq_some_iff.1 h).1
theorem Mp.new (w : World) : Mp (w.alloc (.map #[] 0)) w.heap.size #[] := heap_alloc_new w _
theorem Mp.alloc (h : Mp w b es) (o : Obj) : Mp (w.alloc o) b es := (Below.heap_alloc w o b h.lt).trans h
theorem Mp.drewN (h : Mp w b es) (n : Nat) : Mp (w.drewN n) b es := h
theorem Mp.below {B : Nat} (h : Mp w b es) (hb : Below B w w') (hg : b < B) : Mp w' b es := (hb.block b hg).trans h
theorem Mp.bS (h : Mp w b es) (hb : Below w.heap.size w w') : Mp w' b es := h.below hb h.lt
end
theorem Bk.bS {w w' : World} {g : Nat} {t : TypeId} {cs : Array Value} (h : Bk w g t cs) (hb : Below w.heap.size w w') : Bk w' g t cs := h.below hb h.lt
/-- Blocks behind g, each just these cells. -/
def Bks (w : World) (g : Nat) (t : TypeId) (L : List (Nat × Array Value)) : Prop := ∀ p ∈ L, g < p.1 ∧ Bk w p.1 t p.2
section
variable {w w' : World} {g : Nat} {t : TypeId} {L : List (Nat × Array Value)}
theorem Bks.nil : Bks w g t [] := fun _ h => by cases h
theorem Bks.alloc (h : Bks w g t L) (o : Obj) : Bks (w.alloc o) g t L := fun p hp => ⟨(h p hp).1, (h p hp).2.alloc o⟩
theorem Bks.grown (h : Bks w g t L) (hg : w.grownBy w' (some g)) : Bks w' g t L := fun p hp => ⟨(h p hp).1, (h p hp).2.grown hg (fun e => by have := (h p hp).1; have := Option.some.inj e; omega)⟩
theorem Bks.bS (h : Bks w g t L) (hb : Below w.heap.size w w') : Bks w' g t L := fun p hp => ⟨(h p hp).1, (h p hp).2.below hb (h p hp).2.lt⟩
theorem Bks.snoc (h : Bks w g t L) {k : Nat} {cs : Array Value} (hk : w.heap.size = k) (hg : g < k) : Bks (w.alloc (.cells cs t)) g t (L ++ [(k, cs)]) := fun p hp => by
  rcases List.mem_append.1 hp with hp | hp
  · exact h.alloc _ p hp
  · simp at hp
    subst hp
    subst hk
    exact ⟨hg, Bk.new w t cs⟩
end
theorem isKey_int (q : IntKind) (n : Int) : IsKey (.int q) (.int q n) := by simp [IsKey]
theorem run_insI {P : Program} {w : World} {t k e : TypeId} {q : IntKind} (ht : P.underlying t = some (.map k e)) (hk : P.underlying k = some (.int q)) {b : Nat} {es : Array MapEntry} (hb : Mp w b es) (key : Int) (val : Value) (hf : Instr.findNow (.int q) (.int q key) es.toList 0 = some none) :
    (Instr.mapUpdate t (.map (some b)) (.int q key) val).run P w = .ok () { w with heap := w.heap.setIfInBounds b (.map (es.push ⟨.int q key, val, es.size⟩) (es.size + 1)) } := by
  simp [Instr.mapUpdate, run_underlying ht, MapKept.run_getObj_map (show w.heap[b]? = _ from hb), MapKept.run_checkKey hk (isKey_int q key), MapKept.run_findKey hk hf, MapKept.run_setObj_map _ (show w.heap[b]? = _ from hb), Result.andThen]
theorem wpList_insI {P : Program} (w : World) {ops : Array Oper} {rest : List Oper} {o : Oper} {a : Act} {Q : Exit → Act → World → Prop}
    (hg : o.guard = none) (m x v : Operand) (t : TypeId) (hop : o.op = Op.insert t m x v)
    (k e : TypeId) (q : IntKind) (ht : P.underlying t = some (.map k e)) (hk : P.underlying k = some (.int q)) (b : Nat) (es : Array MapEntry)
    (hm : a.eval m = .map (some b)) (hb : Mp w b es) (key : Int) (val : Value) (hx : a.eval x = .int q key) (hv : a.eval v = val) (hf : Instr.findNow (.int q) (.int q key) es.toList 0 = some none)
    (hK : ∀ w', Mp w' b (es.push ⟨.int q key, val, es.size⟩) → w.grownBy w' (some b) → w'.heap.size = w.heap.size → wpList P ops Q rest (a.put o.dst undef) w') :
    wpList P ops Q (o :: rest) a w := by
  refine wpList_plain hg fun K' hK' => ?_
  have hrun := run_insI ht hk hb key val hf
  unfold Oper.wp
  simp [execOp, hop, hm, hx, hv, hrun, Result.andThen]
  refine hK' _ _ (hK _ ?_ ⟨rfl, rfl, rfl, by simp, fun i _ hne => ?_⟩ (by simp))
  · have := hb.lt
    show (w.heap.setIfInBounds b _)[b]? = _
    simp [this]
  · show (w.heap.setIfInBounds b _)[i]? = _
    rw [Array.getElem?_setIfInBounds, if_neg (fun e => hne (by rw [e]))]
/-- A lookup: what findNow finds. -/
theorem run_lookI {P : Program} {w : World} {t k e : TypeId} {q : IntKind} (ht : P.underlying t = some (.map k e)) (hk : P.underlying k = some (.int q)) {z : Value} (hz : (zeroValue e).run P w = .ok z w) {b : Nat} {es : Array MapEntry} (hb : Mp w b es) (key : Int) (c : Bool) {r : Option (Nat × Value)} (hf : Instr.findNow (.int q) (.int q key) es.toList 0 = some r) :
    (Instr.lookup t (.map (some b)) (.int q key) c).run P w = .ok (if c then .tuple #[(match r with | some x => x.2 | none => z), .bool r.isSome] else (match r with | some x => x.2 | none => z)) w := by
  cases r with
  | none => simp [Instr.lookup, run_underlying ht, MapKept.run_getObj_map (show w.heap[b]? = _ from hb), MapKept.run_checkKey hk (isKey_int q key), MapKept.run_findKey hk hf, hz, Result.andThen]
  | some x => simp [Instr.lookup, run_underlying ht, MapKept.run_getObj_map (show w.heap[b]? = _ from hb), MapKept.run_checkKey hk (isKey_int q key), MapKept.run_findKey hk hf, Result.andThen]
end Go.Proofs.Ytlamebbolioljaa

/- Keys: what parts each kind has; the map of them. -/
namespace Go.Proofs.Ytlamebbolioljaa
open Go.RowKit

/-- Which parts each kind has, in the program's own numbers. -/
def kinds : List (Int × List Int) := [(115, [0, 1, 2]), (116, [0, 1]), (105, [3, 6, 0, 1, 2]), (111, [3, 4, 6, 0, 1, 2]), (103, [3, 4, 5, 6, 0, 1, 2]), (100, [3, 7, 6, 0, 1, 2]), (110, [3, 4]), (101, [7, 3, 4])]
def partsOf (k : Int) : Option (List Int) := (kinds.find? fun p => p.1 == k).map (·.2)
def iv (l : List Int) : List Value := l.map (Value.int .i64)
/-- The map's entries, the map being block g. -/
def partsEs (g : Nat) : Array MapEntry := #[⟨.int .i64 115, .slice (some ⟨g + 1, 0, none⟩) 3 3, 0⟩, ⟨.int .i64 116, .slice (some ⟨g + 2, 0, none⟩) 2 2, 1⟩, ⟨.int .i64 105, .slice (some ⟨g + 3, 0, none⟩) 5 5, 2⟩, ⟨.int .i64 111, .slice (some ⟨g + 4, 0, none⟩) 6 6, 3⟩,
  ⟨.int .i64 103, .slice (some ⟨g + 5, 0, none⟩) 7 7, 4⟩, ⟨.int .i64 100, .slice (some ⟨g + 6, 0, none⟩) 6 6, 5⟩, ⟨.int .i64 110, .slice (some ⟨g + 7, 0, none⟩) 2 2, 6⟩, ⟨.int .i64 101, .slice (some ⟨g + 8, 0, none⟩) 3 3, 7⟩]
def partsBl (g : Nat) : List (Nat × Array Value) := [(g + 1, (iv [0, 1, 2]).toArray), (g + 2, (iv [0, 1]).toArray), (g + 3, (iv [3, 6, 0, 1, 2]).toArray), (g + 4, (iv [3, 4, 6, 0, 1, 2]).toArray), (g + 5, (iv [3, 4, 5, 6, 0, 1, 2]).toArray), (g + 6, (iv [3, 7, 6, 0, 1, 2]).toArray), (g + 7, (iv [3, 4]).toArray), (g + 8, (iv [7, 3, 4]).toArray)]
structure PartsAt (w : World) (g : Nat) : Prop where
  mp : Mp w g (partsEs g)
  bl : Bks w g 3 (partsBl g)
theorem PartsAt.bS {w w' : World} {g : Nat} (h : PartsAt w g) (hb : Below w.heap.size w w') : PartsAt w' g := ⟨h.mp.bS hb, h.bl.bS hb⟩
theorem PartsAt.alloc {w : World} {g : Nat} (h : PartsAt w g) (o : Obj) : PartsAt (w.alloc o) g := ⟨h.mp.alloc o, h.bl.alloc o⟩
def PartsPost (w : World) (e : Ending) (w' : World) : Prop := ∃ g, e = .returned (.map (some g)) ∧ PartsAt w' g ∧ w.heap.size ≤ g ∧ Below w.heap.size w w'

theorem zeroS (w : World) : (zeroValue 64).run Try.prog w = .ok (.slice none 0 0) w := by kernel_rfl
set_option maxRecDepth 100000 in
set_option maxHeartbeats 2000000 in
theorem scParts (w : World) : Calls Try.prog 28 #[] w (PartsPost w) := by
  have hmm := @run_makeMap Try.prog
  have hm : Mp (w.alloc (.map #[] 0)) w.heap.size #[] := Mp.new w
  have hz : (w.alloc (.map #[] 0)).heap.size = w.heap.size + 1 := World.size_alloc w _
  have hk : Bks (w.alloc (.map #[] 0)) w.heap.size 3 [] := Bks.nil
  have hbl : Below w.heap.size w (w.alloc (.map #[] 0)) := (Below.refl _ w).alloc (Nat.le_refl _) _
  go_enter Try.func28, Try.ntmps28
  go_wp2_with ((refine wpList_insI _ (by rfl) (.tmp 1) _ _ 65 (by rfl) 3 64 .i64 Try.underlying65 Try.underlying3 w.heap.size _ (by rfl) (hm.alloc _) _ _ (by rfl) (by rfl) (by rfl) ?_)
               intro w' hm2 hg2 hs2
               have hz2 := hs2
               simp [hz] at hz2
               have hk2 := (hk.snoc hz (by omega)).grown hg2
               have hbl2 := (hbl.alloc hbl.size _).trans (grown_below hg2 (by rw [World.size_alloc, hz]; omega) (fun k hk => by cases hk; exact Nat.le_refl _))
               clear hs2 hg2 hm hz hk hbl
               have hm := hm2
               have hz := hz2
               have hk := hk2
               have hbl := hbl2
               clear hm2 hz2 hk2 hbl2)
  go_ret
  exact ⟨w.heap.size, rfl, ⟨hm, hk⟩, Nat.le_refl _, hbl⟩

/-- A lookup in the map of parts. -/
theorem parts_look2 (g : Nat) (k : Int) : ∃ A, (∀ a : Addr, A = some a → g < a.block) ∧ ∀ w, PartsAt w g → Rd w w.heap.size A (iv ((partsOf k).getD [])) ∧
    ∀ c, (Instr.lookup 65 (.map (some g)) (.int .i64 k) c).run Try.prog w = .ok (if c then .tuple #[.slice A ((partsOf k).getD []).length ((partsOf k).getD []).length, .bool (partsOf k).isSome] else .slice A ((partsOf k).getD []).length ((partsOf k).getD []).length) w := by
  have key : ∀ (l : List Int) (i : Nat), (i, (iv l).toArray) ∈ partsBl g → partsOf k = some l → Instr.findNow (.int .i64) (.int .i64 k) (partsEs g).toList 0 = some (some (i - g - 1, .slice (some ⟨i, 0, none⟩) l.length l.length)) → ∃ A, (∀ a : Addr, A = some a → g < a.block) ∧ ∀ w, PartsAt w g → Rd w w.heap.size A (iv ((partsOf k).getD [])) ∧
    ∀ c, (Instr.lookup 65 (.map (some g)) (.int .i64 k) c).run Try.prog w = .ok (if c then .tuple #[.slice A ((partsOf k).getD []).length ((partsOf k).getD []).length, .bool (partsOf k).isSome] else .slice A ((partsOf k).getD []).length ((partsOf k).getD []).length) w := by
    intro l i hi hp hf
    refine ⟨some ⟨i, 0, none⟩, fun a ha => by cases ha; simp only [partsBl, List.mem_cons, Prod.mk.injEq, List.not_mem_nil, or_false] at hi; show g < i; omega, fun w h => ?_⟩
    have hb := (h.bl _ hi).2
    refine ⟨?_, fun c => ?_⟩
    · rw [hp]
      exact fun _ => ⟨i, 0, rfl, hb.lt, fun j u hu => by rw [Nat.zero_add, hb.cell j]; simpa using hu⟩
    · have hl := run_lookI (P := Try.prog) Try.underlying65 Try.underlying3 (zeroS w) h.mp k c hf
      rw [hl, hp]
      rfl
  by_cases h1 : k = 115
  · subst h1; exact key _ (g + 1) (by simp [partsBl]) rfl (by rw [show g + 1 - g - 1 = 0 from by omega]; rfl)
  by_cases h2 : k = 116
  · subst h2; exact key _ (g + 2) (by simp [partsBl]) rfl (by rw [show g + 2 - g - 1 = 1 from by omega]; rfl)
  by_cases h3 : k = 105
  · subst h3; exact key _ (g + 3) (by simp [partsBl]) rfl (by rw [show g + 3 - g - 1 = 2 from by omega]; rfl)
  by_cases h4 : k = 111
  · subst h4; exact key _ (g + 4) (by simp [partsBl]) rfl (by rw [show g + 4 - g - 1 = 3 from by omega]; rfl)
  by_cases h5 : k = 103
  · subst h5; exact key _ (g + 5) (by simp [partsBl]) rfl (by rw [show g + 5 - g - 1 = 4 from by omega]; rfl)
  by_cases h6 : k = 100
  · subst h6; exact key _ (g + 6) (by simp [partsBl]) rfl (by rw [show g + 6 - g - 1 = 5 from by omega]; rfl)
  by_cases h7 : k = 110
  · subst h7; exact key _ (g + 7) (by simp [partsBl]) rfl (by rw [show g + 7 - g - 1 = 6 from by omega]; rfl)
  by_cases h8 : k = 101
  · subst h8; exact key _ (g + 8) (by simp [partsBl]) rfl (by rw [show g + 8 - g - 1 = 7 from by omega]; rfl)
  have hp : partsOf k = none := by
    have e : ∀ m : Int, k ≠ m → (m == k) = false := fun m hm => by rw [beq_eq_false_iff_ne]; exact fun e => hm e.symm
    simp [partsOf, kinds, e _ h1, e _ h2, e _ h3, e _ h4, e _ h5, e _ h6, e _ h7, e _ h8]
  have hf : Instr.findNow (.int .i64) (.int .i64 k) (partsEs g).toList 0 = some none := by
    have e : ∀ m : Int, k ≠ m → (k == m) = false := fun m hm => by rw [beq_eq_false_iff_ne]; exact hm
    simp [partsEs, Instr.findNow, Instr.sameNow, e _ h1, e _ h2, e _ h3, e _ h4, e _ h5, e _ h6, e _ h7, e _ h8]
  refine ⟨none, (fun a h => by cases h), fun w h => ⟨by rw [hp]; exact Rd.nil, fun c => ?_⟩⟩
  have hl := run_lookI (P := Try.prog) Try.underlying65 Try.underlying3 (zeroS w) h.mp k c hf
  rw [hl, hp]
  rfl
theorem parts_look (g : Nat) (k : Int) : ∃ A, ∀ w, PartsAt w g → Rd w w.heap.size A (iv ((partsOf k).getD [])) ∧
    ∀ c, (Instr.lookup 65 (.map (some g)) (.int .i64 k) c).run Try.prog w = .ok (if c then .tuple #[.slice A ((partsOf k).getD []).length ((partsOf k).getD []).length, .bool (partsOf k).isSome] else .slice A ((partsOf k).getD []).length ((partsOf k).getD []).length) w := by
  obtain ⟨A, _, h⟩ := parts_look2 g k
  exact ⟨A, h⟩
end Go.Proofs.Ytlamebbolioljaa

/- The contract of bytes.Clone. -/
namespace Go.Proofs.Ytlamebbolioljaa
open Go.RowKit

set_option maxHeartbeats 400000 in
/-- bytes.Clone: nil of nil; else the same bytes in a row that the call has made. -/
theorem bytesClone {A : Option Addr} {c B n : Nat} {xs : List Int} (w : World) (ha : Rb w B A xs) (hB : B ≤ w.heap.size) (hx : xs.length ≤ 140737488351232) (hc : A = none → xs = [] ∧ c = 0) (hn : xs.length = n) :
    Calls Try.prog 92 #[.slice A n c] w (RetNew 5 1 w n (bv xs) (fun A' => A' = none → A = none)) := by
  subst hn
  cases A with
  | none =>
    obtain ⟨rfl, rfl⟩ := hc rfl
    go_enter Try.func92, Try.ntmps92
    go_wp2
    go_ret
    exact ⟨none, 0, rfl, App.refl (World.ownsRow_nil _ _ _ _), by simp⟩
  | some a =>
    go_enter Try.func92, Try.ntmps92
    go_wp2_with (at_builtin; go_loud (refine wpList_appb _ rfl (.tmp 5) (.tmp 6) rfl w.heap.size _ 0 [] rfl (World.ownsRow_lit w #[] 0 (Nat.le_refl _) (by simp [maxLen]) rfl) B _ xs.length c xs rfl rfl (ha.alloc hB _) (by omega) (by simp) ?_))
    intro A' c' w' happ hne
    go_wp2
    go_ret
    exact ⟨A', c', rfl, happ.fresh1, fun h => absurd h hne⟩
end Go.Proofs.Ytlamebbolioljaa

/- The small functions on bytes that this seat has. -/

/- The plain mathematics of layer 1 (wire): no program in sight. -/
namespace Go.Proofs.Ytlamebbolioljaa

/-- A short number's bytes. -/
def numEnc (x : Nat) : List Int := if x < 128 then [(x : Int)] else ((x % 128 + 128 : Nat) : Int) :: numEnc (x / 128)
termination_by x
decreasing_by omega
theorem numEnc_lt {x : Nat} (h : x < 128) : numEnc x = [(x : Int)] := by rw [numEnc, if_pos h]
theorem numEnc_ge {x : Nat} (h : 128 ≤ x) : numEnc x = ((x % 128 + 128 : Nat) : Int) :: numEnc (x / 128) := by rw [numEnc, if_neg (by omega)]
theorem numEnc_pos (x : Nat) : 0 < (numEnc x).length := by
  by_cases h : x < 128
  · rw [numEnc_lt h]; simp
  · rw [numEnc_ge (by omega)]; simp
theorem numEnc_len : ∀ (k x : Nat), x < 128 ^ k → 0 < k → (numEnc x).length ≤ k := by
  intro k
  induction k with
  | zero => intro x _ h; omega
  | succ k ih =>
    intro x hx _
    by_cases h : x < 128
    · rw [numEnc_lt h]; simp
    · rw [numEnc_ge (by omega)]
      have h1 : x / 128 < 128 ^ k := by
        rw [Nat.pow_succ] at hx
        omega
      have hk : 0 < k := by
        rcases Nat.eq_zero_or_pos k with rfl | h0
        · simp at hx; omega
        · exact h0
      have := ih (x / 128) h1 hk
      simp only [List.length_cons]
      omega
theorem numEnc_u64 {x : Nat} (h : x < 18446744073709551616) : (numEnc x).length ≤ 10 :=
  numEnc_len 10 x (Nat.lt_of_lt_of_le h (by decide)) (by omega)
theorem numEnc_byt (x : Nat) : Byt (numEnc x) := by
  induction x using numEnc.induct with
  | case1 x h => rw [numEnc_lt h]; intro y hy; simp at hy; omega
  | case2 x h ih =>
    rw [numEnc_ge (by omega)]
    intro y hy
    rcases List.mem_cons.1 hy with rfl | hy
    · omega
    · exact ih y hy

/-- A number's eight bytes, in order. -/
def ordTo (x : Nat) : Nat → List Int
  | 0 => []
  | k + 1 => ((x / 256 ^ k % 256 : Nat) : Int) :: ordTo x k
def ordEnc (x : Nat) : List Int := ordTo x 8
theorem ordTo_len (x k : Nat) : (ordTo x k).length = k := by induction k with | zero => rfl | succ k ih => simp [ordTo, ih]
theorem ordEnc_len (x : Nat) : (ordEnc x).length = 8 := ordTo_len x 8
theorem ordTo_byt (x k : Nat) : Byt (ordTo x k) := by
  induction k with
  | zero => intro y hy; simp [ordTo] at hy
  | succ k ih =>
    intro y hy
    rcases List.mem_cons.1 hy with rfl | hy
    · omega
    · exact ih y hy
theorem ordEnc_byt (x : Nat) : Byt (ordEnc x) := ordTo_byt x 8

/-- A text's bytes in order, without the end. -/
def txtTo (s : List Int) : List Int := s.flatMap fun c => if c = 0 then [0, 255] else [c]
def txtEnc (s : List Int) : List Int := txtTo s ++ [0, 1]
theorem txtTo_snoc0 (s : List Int) : txtTo (s ++ [0]) = txtTo s ++ [0] ++ [255] := by simp [txtTo]
theorem txtTo_snoc (s : List Int) {c : Int} (h : c ≠ 0) : txtTo (s ++ [c]) = txtTo s ++ [c] := by simp [txtTo, h]
theorem txtTo_len (s : List Int) : (txtTo s).length ≤ 2 * s.length := by
  induction s with
  | nil => simp [txtTo]
  | cons c s ih =>
    have : txtTo (c :: s) = (if c = 0 then [0, 255] else [c]) ++ txtTo s := rfl
    rw [this, List.length_append, List.length_cons]
    split <;> simp <;> omega
theorem txtTo_byt {s : List Int} (h : Byt s) : Byt (txtTo s) := by
  intro y hy
  obtain ⟨c, hc, hy⟩ := List.mem_flatMap.1 hy
  have := h c hc
  split at hy
  · simp at hy; omega
  · simp at hy; omega

/-- How many bytes are left of the first n, when the 255s at their end are gone. -/
def cutN (p : List Int) : Nat → Nat
  | 0 => 0
  | n + 1 => if p[n]? = some 255 then cutN p n else n + 1
theorem cutN_le (p : List Int) (n : Nat) : cutN p n ≤ n := by
  induction n with
  | zero => simp [cutN]
  | succ n ih => rw [cutN]; split <;> omega
theorem cutN_last (p : List Int) (n : Nat) (h : 0 < cutN p n) : p[cutN p n - 1]? ≠ some 255 := by
  induction n with
  | zero => simp [cutN] at h
  | succ n ih =>
    by_cases hc : p[n]? = some 255
    · rw [cutN, if_pos hc] at h ⊢; exact ih h
    · rw [cutN, if_neg hc]; simpa using hc
theorem cutN_rest (p : List Int) (n j : Nat) (h : cutN p n ≤ j) (hj : j < n) : p[j]? = some 255 := by
  induction n with
  | zero => omega
  | succ n ih =>
    by_cases hc : p[n]? = some 255
    · rw [cutN, if_pos hc] at h
      by_cases hjn : j = n
      · rw [hjn]; exact hc
      · exact ih h (by omega)
    · rw [cutN, if_neg hc] at h; omega
/-- The least bytes above all that begin with p. -/
def aftOf (p : List Int) : List Int := p.take (cutN p p.length - 1) ++ [(p.getD (cutN p p.length - 1) 0) + 1]
theorem aftOf_len (p : List Int) (h : 0 < cutN p p.length) : (aftOf p).length = cutN p p.length := by
  have := cutN_le p p.length
  simp [aftOf]; omega

/-- The number that stands in some bytes, in order. -/
def ordVal (l : List Int) : Nat := l.foldl (fun a c => a * 256 + c.toNat) 0
theorem ordVal_snoc (l : List Int) (c : Int) : ordVal (l ++ [c]) = ordVal l * 256 + c.toNat := by simp [ordVal]
theorem ordVal_lt : ∀ (k : Nat) (l : List Int), Byt l → l.length = k → ordVal l < 256 ^ k := by
  intro k
  induction k with
  | zero => intro l _ h; obtain rfl := List.eq_nil_of_length_eq_zero h; simp [ordVal]
  | succ k ih =>
    intro l hb h
    obtain ⟨a, c, rfl⟩ : ∃ a c, l = a ++ [c] := by
      have hne : l ≠ [] := by rintro rfl; simp at h
      exact ⟨l.dropLast, l.getLast hne, (List.dropLast_concat_getLast hne).symm⟩
    have h1 := ih a (fun x hx => hb x (by simp [hx])) (by simpa using h)
    have h2 := hb c (by simp)
    rw [ordVal_snoc, Nat.pow_succ]
    omega
theorem ordTo_val (x : Nat) : ∀ (k : Nat), ordVal (ordTo x k) = x % 256 ^ k := by
  have gen : ∀ (k : Nat) (a : Nat), (ordTo x k).foldl (fun a c => a * 256 + c.toNat) a = a * 256 ^ k + x % 256 ^ k := by
    intro k
    induction k with
    | zero => intro a; simp [ordTo, Nat.mod_one]
    | succ k ih =>
      intro a
      have hp : 0 < 256 ^ k := Nat.pow_pos (by omega)
      have e : x % 256 ^ (k + 1) = (x / 256 ^ k % 256) * 256 ^ k + x % 256 ^ k := by
        rw [Nat.pow_succ, Nat.mod_mul, Nat.add_comm, Nat.mul_comm]
      simp only [ordTo, List.foldl_cons]
      rw [ih, Int.toNat_natCast, e, Nat.add_mul, Nat.pow_succ, Nat.mul_assoc, Nat.mul_comm 256 (256 ^ k)]
      omega
  intro k
  have := gen k 0
  simpa [ordVal] using this

/-- What a text in order says from place i on: the text and the place behind it; or the error. 12: more is wanted; 4: no such text. -/
def txtRead (b : List Int) (i : Nat) (out : List Int) : Nat → (List Int × Nat) ⊕ Nat
  | 0 => .inr 12
  | f + 1 => match b[i]? with
    | none => .inr 12
    | some x => if x ≠ 0 then txtRead b (i + 1) (out ++ [x]) f else
      match b[i + 1]? with
      | none => .inr 12
      | some y => if y = 1 then .inl (out, i + 2) else if y = 255 then txtRead b (i + 2) (out ++ [0]) f else .inr 4
theorem txtRead_end (b out : List Int) (i f : Nat) (h : b.length ≤ i) : txtRead b i out f = .inr 12 := by
  cases f with
  | zero => rfl
  | succ f => rw [txtRead, List.getElem?_eq_none h]
theorem txtRead_fuel (b : List Int) : ∀ (f g i : Nat) (out : List Int), b.length ≤ i + f → b.length ≤ i + g → txtRead b i out f = txtRead b i out g := by
  intro f
  induction f with
  | zero => intro g i out h1 h2; rw [txtRead_end b out i 0 (by omega), txtRead_end b out i g (by omega)]
  | succ f ih =>
    intro g i out h1 h2
    cases g with
    | zero => rw [txtRead_end b out i _ (by omega), txtRead_end b out i _ (by omega)]
    | succ g =>
      rw [txtRead, txtRead]
      cases b[i]? with
      | none => rfl
      | some x =>
        simp only
        split
        · exact ih g (i + 1) _ (by omega) (by omega)
        · cases b[i + 1]? with
          | none => rfl
          | some y =>
            simp only
            split
            · rfl
            · split
              · exact ih g (i + 2) _ (by omega) (by omega)
              · rfl
/-- From place k on. -/
def txtR (b : List Int) (k : Nat) (out : List Int) : (List Int × Nat) ⊕ Nat := txtRead b k out (b.length - k)
theorem txtR_over {b out : List Int} {k : Nat} (h : b.length ≤ k) : txtR b k out = .inr 12 := txtRead_end b out k _ h
theorem lt_of_get {b : List Int} {k : Nat} {x : Int} (h : b[k]? = some x) : k < b.length := (List.getElem?_eq_some_iff.1 h).1
theorem txtR_x {b out : List Int} {k : Nat} {x : Int} (h : b[k]? = some x) (hx : x ≠ 0) : txtR b k out = txtR b (k + 1) (out ++ [x]) := by
  have := lt_of_get h
  rw [txtR, txtR, show b.length - k = (b.length - (k + 1)) + 1 from by omega, txtRead, h]
  simp [hx]
theorem txtR_more {b out : List Int} {k : Nat} (h : b[k]? = some 0) (h1 : k + 1 = b.length) : txtR b k out = .inr 12 := by
  rw [txtR, show b.length - k = 0 + 1 from by omega, txtRead, h, List.getElem?_eq_none (show b.length ≤ k + 1 from by omega)]
  simp
theorem txtR_end {b out : List Int} {k : Nat} (h : b[k]? = some 0) (h1 : b[k + 1]? = some 1) : txtR b k out = .inl (out, k + 2) := by
  have := lt_of_get h
  rw [txtR, show b.length - k = (b.length - (k + 1)) + 1 from by omega, txtRead, h, h1]
  simp
theorem txtR_zero {b out : List Int} {k : Nat} (h : b[k]? = some 0) (h1 : b[k + 1]? = some 255) : txtR b k out = txtR b (k + 2) (out ++ [0]) := by
  have := lt_of_get h
  rw [txtR, txtR, show b.length - k = (b.length - (k + 1)) + 1 from by omega, txtRead, h, h1]
  simp
  exact txtRead_fuel b _ _ _ _ (by omega) (by omega)
theorem txtR_bad {b out : List Int} {k : Nat} {y : Int} (h : b[k]? = some 0) (h1 : b[k + 1]? = some y) (hy1 : y ≠ 1) (hy2 : y ≠ 255) : txtR b k out = .inr 4 := by
  have := lt_of_get h
  rw [txtR, show b.length - k = (b.length - (k + 1)) + 1 from by omega, txtRead, h, h1]
  simp [hy1, hy2]
/-- The whole. -/
def txtOf (b : List Int) : (List Int × Nat) ⊕ Nat := txtR b 0 []
end Go.Proofs.Ytlamebbolioljaa
