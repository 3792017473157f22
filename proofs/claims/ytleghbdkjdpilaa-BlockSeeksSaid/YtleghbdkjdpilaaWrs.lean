/- Writes as they lie in memory: their bytes elsewhere; a row of them that grows. -/
import Derived.Test.YtleghbdkjdpilaaRdr2
namespace Go.Proofs.Ytleghbdkjdpilaa
open Go.RowKit

structure Wr where
  kind : Int
  key : List Int
  val : List Int
deriving DecidableEq

def BytW (x : Wr) : Prop := Byt x.key ∧ Byt x.val

/-- The writes lie from A on, three cells each. -/
def RbW (w : World) (B : Nat) (A : Option Addr) (ws : List Wr) : Prop :=
  ∃ hs : List Value, Rd w B A hs ∧ ∀ (i : Nat) (x : Wr), ws[i]? = some x → ∃ A1 c1 A2 c2, hs[i * 3]? = some (Value.int .i64 x.kind) ∧ hs[i * 3 + 1]? = some (Value.slice A1 x.key.length c1) ∧ hs[i * 3 + 2]? = some (Value.slice A2 x.val.length c2) ∧
    x.key.length ≤ c1 ∧ Rb w B A1 x.key ∧ x.val.length ≤ c2 ∧ Rb w B A2 x.val ∧ (A1 = none → c1 = 0) ∧ (A2 = none → c2 = 0)
theorem RbW.get {w : World} {B : Nat} {A : Option Addr} {ws : List Wr} (h : RbW w B A ws) {i : Nat} {x : Wr} (hi : ws[i]? = some x) :
    ∃ b o A1 c1 A2 c2, A = some ⟨b, o, none⟩ ∧ b < B ∧ w.cell? ⟨b, o + i * 3, none⟩ = some (.int .i64 x.kind) ∧ w.cell? ⟨b, o + i * 3 + 1, none⟩ = some (.slice A1 x.key.length c1) ∧ w.cell? ⟨b, o + i * 3 + 2, none⟩ = some (.slice A2 x.val.length c2) ∧
      x.key.length ≤ c1 ∧ Rb w B A1 x.key ∧ x.val.length ≤ c2 ∧ Rb w B A2 x.val ∧ (A1 = none → c1 = 0) ∧ (A2 = none → c2 = 0) := by
  obtain ⟨hs, hr, hh⟩ := h
  obtain ⟨A1, c1, A2, c2, h1, h2, h3, h4, h5, h6, h7⟩ := hh i x hi
  obtain ⟨b, o, e, hb, hc⟩ := hr.get h1
  subst e
  obtain ⟨b', o', e', _, hc'⟩ := hr.get h2
  obtain ⟨b'', o'', e'', _, hc''⟩ := hr.get h3
  cases e'
  cases e''
  exact ⟨b, o, A1, c1, A2, c2, rfl, hb, hc, hc', hc'', h4, h5, h6, h7⟩
theorem RbW.keep {w w' : World} {B : Nat} {A : Option Addr} {ws : List Wr} (h : RbW w B A ws) (hk : ∀ p : Addr, p.block < B → w'.cell? p = w.cell? p) : RbW w' B A ws := by
  obtain ⟨hs, hr, hh⟩ := h
  refine ⟨hs, hr.keep hk, fun i x hi => ?_⟩
  obtain ⟨A1, c1, A2, c2, h1, h2, h3, h4, h5, h6, h7⟩ := hh i x hi
  exact ⟨A1, c1, A2, c2, h1, h2, h3, h4, h5.keep hk, h6, h7.1.keep hk, h7.2⟩
theorem RbW.below {w w' : World} {B : Nat} {A : Option Addr} {ws : List Wr} (h : RbW w B A ws) (hb : Below B w w') : RbW w' B A ws := h.keep fun _ hp => hb.cell hp
theorem RbW.more {w : World} {B B' : Nat} {A : Option Addr} {ws : List Wr} (h : RbW w B A ws) (hB : B ≤ B') : RbW w B' A ws := by
  obtain ⟨hs, hr, hh⟩ := h
  refine ⟨hs, hr.more hB, fun i x hi => ?_⟩
  obtain ⟨A1, c1, A2, c2, h1, h2, h3, h4, h5, h6, h7⟩ := hh i x hi
  exact ⟨A1, c1, A2, c2, h1, h2, h3, h4, h5.more hB, h6, h7.1.more hB, h7.2⟩
theorem RbW.belowS {w w' : World} {A : Option Addr} {ws : List Wr} (h : RbW w w.heap.size A ws) (hb : Below w.heap.size w w') : RbW w' w'.heap.size A ws := (h.below hb).more hb.size
theorem nil_of {w : World} {B : Nat} {A : Option Addr} {zs : List Int} (h : Rb w B A zs) (e : A = none) : zs = [] := by
  by_cases hz : zs = []
  · exact hz
  · obtain ⟨b, o, e', _⟩ := h (by simpa [bv] using hz)
    rw [e] at e'
    cases e'
theorem Rb.beside {w w' : World} {row : Option Nat} {A : Option Addr} {zs : List Int} (h : Rb w w.heap.size A zs) (hg : w.grownBy w' row) (hs : zs ≠ [] → ∀ a, A = some a → row ≠ some a.block) : Rb w' w'.heap.size A zs := fun hn => by
  obtain ⟨b, o, rfl, hb, hc⟩ := h hn
  exact ⟨b, o, rfl, Nat.lt_of_lt_of_le hb hg.size, fun j u hu => (World.cell?_of_block (a := ⟨b, o + j, none⟩) (hg.block b hb (fun e => hs (by simpa [bv] using hn) _ rfl e.symm))).trans (hc j u hu)⟩
theorem far_app {base : Nat} {e : TypeId} {size n : Nat} {w w' : World} {v v' : Value} {xs : List Value} {A : Option Addr} {zs : List Int} (k : App base e size w v w' v' n xs) (h : Rb w w.heap.size A zs) (hs : zs ≠ [] → ∀ a, A = some a → v.ownBlock ≠ some a.block) :
    zs ≠ [] → ∀ a, A = some a → v'.ownBlock ≠ some a.block := fun hz a ha e => by
  rcases k.block with hb | ⟨q, hq, hl⟩
  · exact hs hz a ha (hb.symm.trans e)
  · rw [hq] at e
    cases e
    obtain ⟨b, o, e2, hb, _⟩ := h (by simpa [bv] using hz)
    rw [ha] at e2
    cases e2
    simp at hl
    omega
/-- The three cells of a write whose bytes lie below B, from block lo on, and not in block r. -/
def WrAt (w : World) (lo B : Nat) (r : Option Nat) (hs : List Value) (i : Nat) (x : Wr) : Prop :=
  ∃ A1 c1 A2 c2, hs[i * 3]? = some (Value.int .i64 x.kind) ∧ hs[i * 3 + 1]? = some (Value.slice A1 x.key.length c1) ∧ hs[i * 3 + 2]? = some (Value.slice A2 x.val.length c2) ∧
    x.key.length ≤ c1 ∧ Rb w B A1 x.key ∧ x.val.length ≤ c2 ∧ Rb w B A2 x.val ∧ (x.key ≠ [] → ∀ a, A1 = some a → r ≠ some a.block) ∧ (x.val ≠ [] → ∀ a, A2 = some a → r ≠ some a.block) ∧ (x.key ≠ [] → ∀ a, A1 = some a → lo ≤ a.block) ∧ (x.val ≠ [] → ∀ a, A2 = some a → lo ≤ a.block) ∧ (A1 = none → c1 = 0) ∧ (A2 = none → c2 = 0)
theorem WrAt.beside {w w' : World} {lo : Nat} {r row : Option Nat} {hs : List Value} {i : Nat} {x : Wr} (h : WrAt w lo w.heap.size r hs i x) (hg : w.grownBy w' row) (hr : ∀ k, row = some k → k < lo) : WrAt w' lo w'.heap.size r hs i x := by
  obtain ⟨A1, c1, A2, c2, h1, h2, h3, h4, h5, h6, h7, h8, h9, h10, h11, h12⟩ := h
  exact ⟨A1, c1, A2, c2, h1, h2, h3, h4, h5.beside hg (fun hz a ha e => by have := hr _ e; have := h10 hz a ha; omega), h6, h7.beside hg (fun hz a ha e => by have := hr _ e; have := h11 hz a ha; omega), h8, h9, h10, h11, h12⟩
theorem WrAt.app {base lo : Nat} {e : TypeId} {size n i : Nat} {w w' : World} {v v' : Value} {xs hs more : List Value} {x : Wr} (h : WrAt w lo w.heap.size v.ownBlock hs i x) (k : App base e size w v w' v' n xs) : WrAt w' lo w'.heap.size v'.ownBlock (hs ++ more) i x := by
  obtain ⟨A1, c1, A2, c2, h1, h2, h3, h4, h5, h6, h7, h8, h9, h10, h11, h12⟩ := h
  have lt : ∀ {j : Nat} {u : Value}, hs[j]? = some u → (hs ++ more)[j]? = some u := fun {j u} hj => by
    rw [List.getElem?_append_left (List.getElem?_eq_some_iff.1 hj).1]; exact hj
  exact ⟨A1, c1, A2, c2, lt h1, lt h2, lt h3, h4, h5.beside k.grown h8, h6, h7.beside k.grown h9, far_app k h5 h8, far_app k h7 h9, h10, h11, h12⟩
/-- A row of writes that grows: its cells, and bytes that lie elsewhere, from block lo on. -/
structure WsM (e : TypeId) (W : World) (lo : Nat) (A : Option Addr) (j c : Nat) (acc : List Wr) (hs : List Value) : Prop where
  own : W.ownsRow lo e 3 (.slice A j c) j hs
  ats : ∀ (i : Nat) (x : Wr), acc[i]? = some x → WrAt W lo W.heap.size (Value.slice A j c).ownBlock hs i x
  len : acc.length = j
  hlo : lo ≤ W.heap.size
section
variable {e : TypeId} {W W' : World} {lo : Nat} {A : Option Addr} {j c : Nat} {acc : List Wr} {hs : List Value}
theorem WsM.nil (e : TypeId) (W : World) {lo : Nat} (h : lo ≤ W.heap.size) : WsM e W lo none 0 0 [] [] := ⟨World.ownsRow_nil _ _ _ _, fun i x h => by simp at h, rfl, h⟩
theorem WsM.beside {row : Option Nat} (h : WsM e W lo A j c acc hs) (hg : W.grownBy W' row) (hr : ∀ k, row = some k → k < lo) : WsM e W' lo A j c acc hs :=
  ⟨h.own.kept hg (by
    cases hv : (Value.slice A j c).ownBlock with
    | none => exact .inl rfl
    | some k => exact .inr fun q => by have := hr k q.symm; have := (h.own.lt k hv).1; omega), fun i x hx => (h.ats i x hx).beside hg hr, h.len, Nat.le_trans h.hlo hg.size⟩
theorem WsM.below (h : WsM e W lo A j c acc hs) (hb : Below W.heap.size W W') : WsM e W' lo A j c acc hs :=
  h.beside (row := none) ⟨hb.os, hb.tape, hb.output, hb.size, fun k hk _ => hb.block k hk⟩ (fun _ h => by cases h)
theorem WsM.rbw (h : WsM e W lo A j c acc hs) : RbW W W.heap.size A acc :=
  ⟨hs, Rd.of_own h.own, fun i x hx => by
    obtain ⟨A1, c1, A2, c2, h1, h2, h3, h4, h5, h6, h7, h8, h9, h10, h11, h12⟩ := h.ats i x hx
    exact ⟨A1, c1, A2, c2, h1, h2, h3, h4, h5, h6, h7, h12⟩⟩
theorem WsM.push {A1 A2 : Option Addr} {c1 c2 : Nat} {x : Wr} (h : WsM e W lo A j c acc hs) {A' : Option Addr} {c' : Nat}
    (k : App lo e 3 W (.slice A j c) W' (.slice A' (j + 1) c') (j + 1) (hs ++ [.int .i64 x.kind, .slice A1 x.key.length c1, .slice A2 x.val.length c2]))
    (r1 : Rb W W.heap.size A1 x.key) (l1 : x.key.length ≤ c1) (r2 : Rb W W.heap.size A2 x.val) (l2 : x.val.length ≤ c2)
    (b1 : x.key ≠ [] → ∀ a, A1 = some a → lo ≤ a.block ∧ (Value.slice A j c).ownBlock ≠ some a.block) (b2 : x.val ≠ [] → ∀ a, A2 = some a → lo ≤ a.block ∧ (Value.slice A j c).ownBlock ≠ some a.block)
    (z1 : A1 = none → c1 = 0) (z2 : A2 = none → c2 = 0) :
    WsM e W' lo A' (j + 1) c' (acc ++ [x]) (hs ++ [.int .i64 x.kind, .slice A1 x.key.length c1, .slice A2 x.val.length c2]) := by
  have hg := k.grown
  have hl : hs.length = j * 3 := h.own.1
  refine ⟨k.own, fun i y hy => ?_, by simp [h.len], Nat.le_trans h.hlo hg.size⟩
  by_cases hi : i < acc.length
  · rw [List.getElem?_append_left hi] at hy
    exact (h.ats i y hy).app k
  · have hij : i = j := by
      have := (List.getElem?_eq_some_iff.1 hy).1
      simp at this
      have := h.len
      omega
    subst hij
    rw [List.getElem?_append_right (by omega)] at hy
    have hy2 : y = x := by
      have : i - acc.length = 0 := by have := h.len; omega
      rw [this] at hy
      simpa using hy.symm
    subst hy2
    exact ⟨A1, c1, A2, c2, by rw [List.getElem?_append_right (by omega)]; simp [hl], by rw [List.getElem?_append_right (by omega)]; simp [hl], by rw [List.getElem?_append_right (by omega)]; simp [hl],
      l1, r1.beside hg (fun z a ha => (b1 z a ha).2), l2, r2.beside hg (fun z a ha => (b2 z a ha).2), far_app k r1 (fun z a ha => (b1 z a ha).2), far_app k r2 (fun z a ha => (b2 z a ha).2), fun z a ha => (b1 z a ha).1, fun z a ha => (b2 z a ha).1, z1, z2⟩
end
end Go.Proofs.Ytleghbdkjdpilaa
