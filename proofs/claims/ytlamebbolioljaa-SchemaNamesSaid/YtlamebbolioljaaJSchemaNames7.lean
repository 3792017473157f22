/- Texts of the proof of SchemaNamesSaid, joined: MpS Wrs WrU ScZ ScV Vls ScU LibT. -/
import Derived.Test.YtlamebbolioljaaJSchemaNames1
import Derived.Test.YtlamebbolioljaaJSchemaNames2
import Derived.Deep.AppendLies
import Derived.Test.YtlamebbolioljaaJSchemaNames6
import Derived.Lib.FrozenHead2
import Derived.Test.YtlamebbolioljaaJSchemaNames4
/- A set of strings (map[string]bool) that grows: one insert, one lookup. -/
namespace Go.Proofs.Ytlamebbolioljaa
open Go.RowKit Go.MapKept

def setE (ks : List ByteArray) : List MapEntry := ks.mapIdx fun i k => ⟨.string k, .bool true, i⟩
theorem setE_length (ks : List ByteArray) : (setE ks).length = ks.length := by simp [setE]
theorem setE_snoc (ks : List ByteArray) (k : ByteArray) : setE (ks ++ [k]) = setE ks ++ [⟨.string k, .bool true, ks.length⟩] := by simp [setE, List.mapIdx_append]
theorem setE_mem {ks : List ByteArray} {e : MapEntry} (h : e ∈ setE ks) : ∃ k ∈ ks, e.key = .string k ∧ e.val = .bool true := by
  rw [setE, List.mem_mapIdx] at h
  obtain ⟨i, hi, rfl⟩ := h
  exact ⟨_, List.getElem_mem hi, rfl, rfl⟩
theorem setE_of_mem {ks : List ByteArray} {k : ByteArray} (h : k ∈ ks) : ∃ e ∈ setE ks, e.key = .string k := by
  obtain ⟨i, hi, rfl⟩ := List.getElem_of_mem h
  exact ⟨_, List.mem_mapIdx.2 ⟨i, hi, rfl⟩, rfl⟩
theorem find_set (ks : List ByteArray) (k : ByteArray) : (k ∉ ks ∧ Instr.findNow .string (.string k) (setE ks) 0 = some none) ∨ (k ∈ ks ∧ ∃ i, Instr.findNow .string (.string k) (setE ks) 0 = some (some (i, .bool true))) := by
  rcases findNow_spec (d := .string) (k := .string k) trivial (setE ks) 0 (fun x hx => by obtain ⟨y, -, h, -⟩ := setE_mem hx; rw [h]; trivial) with ⟨h1, h2⟩ | ⟨j, e, h1, h2, h3⟩
  · refine .inl ⟨fun hk => ?_, h1⟩
    obtain ⟨e, he, hq⟩ := setE_of_mem hk
    exact h2 e he hq
  · have he := List.mem_of_getElem? h2
    obtain ⟨y, hy, hq, hv⟩ := setE_mem he
    rw [h3] at hq
    have hky : k = y := by cases hq; rfl
    subst hky
    rw [hv] at h1
    exact .inr ⟨hy, 0 + j, h1⟩
/-- Block b is just the set of these strings. -/
def MpS (w : World) (b : Nat) (ks : List ByteArray) : Prop := Mp w b (setE ks).toArray
section
variable {w w' : World} {b : Nat} {ks : List ByteArray}
theorem MpS.lt (h : MpS w b ks) : b < w.heap.size := Mp.lt h
theorem MpS.new (w : World) : MpS (w.alloc (.map #[] 0)) w.heap.size [] := Mp.new w
theorem MpS.alloc (h : MpS w b ks) (o : Obj) : MpS (w.alloc o) b ks := Mp.alloc h o
theorem MpS.below {B : Nat} (h : MpS w b ks) (hb : Below B w w') (hg : b < B) : MpS w' b ks := Mp.below h hb hg
theorem MpS.bS (h : MpS w b ks) (hb : Below w.heap.size w w') : MpS w' b ks := Mp.bS h hb
theorem MpS.drew (h : MpS w b ks) : MpS w.drew b ks := h
theorem MpS.grown {k : Option Nat} (h : MpS w b ks) (hg : w.grownBy w' k) (hne : some b ≠ k) : MpS w' b ks := (hg.block b h.lt hne).trans h
end
theorem isKey_str (s : ByteArray) : IsKey .string (.string s) := by simp [IsKey]
def hasS (ks : List ByteArray) (k : ByteArray) : Bool := ks.any (fun y => y == k)
theorem hasS_iff {ks : List ByteArray} {k : ByteArray} : hasS ks k = true ↔ k ∈ ks := by
  simp only [hasS, List.any_eq_true, bytes_beq]
  exact ⟨fun ⟨x, h, e⟩ => e ▸ h, fun h => ⟨k, h, rfl⟩⟩
theorem hasS_not {ks : List ByteArray} {k : ByteArray} : hasS ks k = false ↔ k ∉ ks := by
  rw [← hasS_iff]
  simp
/-- Is it in the set? -/
theorem run_lookS {P : Program} {w : World} {t k e : TypeId} (ht : P.underlying t = some (.map k e)) (hk : P.underlying k = some .string) (hz : (zeroValue e).run P w = .ok (.bool false) w) {b : Nat} {ks : List ByteArray} (hb : MpS w b ks) (key : ByteArray) :
    (Instr.lookup t (.map (some b)) (.string key) false).run P w = .ok (.bool (hasS ks key)) w := by
  rcases find_set ks key with ⟨hm, hf⟩ | ⟨hm, i, hf⟩
  · simp [Instr.lookup, run_underlying ht, MapKept.run_getObj_map (show w.heap[b]? = _ from hb), MapKept.run_checkKey hk (isKey_str key), MapKept.run_findKey hk hf, hz, Result.andThen, hasS_not.2 hm]
  · simp [Instr.lookup, run_underlying ht, MapKept.run_getObj_map (show w.heap[b]? = _ from hb), MapKept.run_checkKey hk (isKey_str key), MapKept.run_findKey hk hf, Result.andThen, hasS_iff.2 hm]
theorem run_insS {P : Program} {w : World} {t k e : TypeId} (ht : P.underlying t = some (.map k e)) (hk : P.underlying k = some .string) {b : Nat} {ks : List ByteArray} (hb : MpS w b ks) (key : ByteArray) (hn : key ∉ ks) :
    (Instr.mapUpdate t (.map (some b)) (.string key) (.bool true)).run P w = .ok () { w with heap := w.heap.setIfInBounds b (.map (setE (ks ++ [key])).toArray (setE (ks ++ [key])).length) } := by
  rcases find_set ks key with ⟨-, hf⟩ | ⟨hm, -⟩
  · simp [Instr.mapUpdate, run_underlying ht, MapKept.run_getObj_map (show w.heap[b]? = _ from hb), MapKept.run_checkKey hk (isKey_str key), MapKept.run_findKey hk hf, MapKept.run_setObj_map _ (show w.heap[b]? = _ from hb), Result.andThen, setE_snoc, setE_length]
  · exact absurd hm hn
theorem wpList_insS {P : Program} (w : World) {ops : Array Oper} {rest : List Oper} {o : Oper} {a : Act} {Q : Exit → Act → World → Prop}
    (hg : o.guard = none) (m x v : Operand) (t : TypeId) (hop : o.op = Op.insert t m x v)
    (k e : TypeId) (ht : P.underlying t = some (.map k e)) (hk : P.underlying k = some .string) (b : Nat) (ks : List ByteArray)
    (hm : a.eval m = .map (some b)) (hb : MpS w b ks) (key : ByteArray) (hx : a.eval x = .string key) (hv : a.eval v = .bool true) (hn : key ∉ ks)
    (hK : ∀ w', MpS w' b (ks ++ [key]) → w.grownBy w' (some b) → w'.heap.size = w.heap.size → wpList P ops Q rest (a.put o.dst undef) w') :
    wpList P ops Q (o :: rest) a w := by
  refine wpList_plain hg fun K' hK' => ?_
  have hrun := run_insS ht hk hb key hn
  unfold Oper.wp
  simp [execOp, hop, hm, hx, hv, hrun, Result.andThen]
  refine hK' _ _ (hK _ ?_ ⟨rfl, rfl, rfl, by simp, fun i _ hne => ?_⟩ (by simp))
  · have := hb.lt
    show (w.heap.setIfInBounds b _)[b]? = _
    simp [this]
  · show (w.heap.setIfInBounds b _)[i]? = _
    rw [Array.getElem?_setIfInBounds, if_neg (fun e => hne (by rw [e]))]
theorem wpList_updS {P : Program} (w : World) {ops : Array Oper} {rest : List Oper} {o : Oper} {a : Act} {Q : Exit → Act → World → Prop}
    (hg : o.guard = none) (m x v : Operand) (t : TypeId) (hop : o.op = Op.mapUpdate t m x v)
    (k e : TypeId) (ht : P.underlying t = some (.map k e)) (hk : P.underlying k = some .string) (b : Nat) (ks : List ByteArray)
    (hm : a.eval m = .map (some b)) (hb : MpS w b ks) (key : ByteArray) (hx : a.eval x = .string key) (hv : a.eval v = .bool true) (hn : key ∉ ks)
    (hK : ∀ w', MpS w' b (ks ++ [key]) → w.grownBy w' (some b) → w'.heap.size = w.heap.size → wpList P ops Q rest (a.put o.dst undef) w') :
    wpList P ops Q (o :: rest) a w := by
  refine wpList_plain hg fun K' hK' => ?_
  have hrun := run_insS ht hk hb key hn
  unfold Oper.wp
  simp [execOp, hop, hm, hx, hv, hrun, Result.andThen]
  refine hK' _ _ (hK _ ?_ ⟨rfl, rfl, rfl, by simp, fun i _ hne => ?_⟩ (by simp))
  · have := hb.lt
    show (w.heap.setIfInBounds b _)[b]? = _
    simp [this]
  · show (w.heap.setIfInBounds b _)[i]? = _
    rw [Array.getElem?_setIfInBounds, if_neg (fun e => hne (by rw [e]))]
end Go.Proofs.Ytlamebbolioljaa

/- Writes as they lie in memory: their bytes elsewhere; a row of them that grows. -/
namespace Go.Proofs.Ytlamebbolioljaa
open Go.RowKit

structure Wr where
  kind : Int
  key : List Int
  val : List Int
deriving DecidableEq

def BytW (x : Wr) : Prop := Byt x.key ∧ Byt x.val

/-- The writes lie from A on, three cells each. -/
def RbW (w : World) (B : Nat) (A : Option Addr) (ws : List Wr) : Prop :=
  ∃ hs : List Value, Rd w B A hs ∧ ∀ (i : Nat) (x : Wr), ws[i]? = some x → ∃ A1 c1 A2 c2, hs[i * 3]? = some (Value.int .i64 x.kind) ∧ hs[i * 3 + 1]? = some (Value.slice A1 x.key.length c1) ∧ hs[i * 3 + 2]? = some (Value.slice A2 x.val.length c2) ∧
    x.key.length ≤ c1 ∧ Rb w B A1 x.key ∧ x.val.length ≤ c2 ∧ Rb w B A2 x.val ∧ (A1 = none → c1 = 0) ∧ (A2 = none → c2 = 0)
theorem RbW.get {w : World} {B : Nat} {A : Option Addr} {ws : List Wr} (h : RbW w B A ws) {i : Nat} {x : Wr} (hi : ws[i]? = some x) :
    ∃ b o A1 c1 A2 c2, A = some ⟨b, o, none⟩ ∧ b < B ∧ w.cell? ⟨b, o + i * 3, none⟩ = some (.int .i64 x.kind) ∧ w.cell? ⟨b, o + i * 3 + 1, none⟩ = some (.slice A1 x.key.length c1) ∧ w.cell? ⟨b, o + i * 3 + 2, none⟩ = some (.slice A2 x.val.length c2) ∧
      x.key.length ≤ c1 ∧ Rb w B A1 x.key ∧ x.val.length ≤ c2 ∧ Rb w B A2 x.val ∧ (A1 = none → c1 = 0) ∧ (A2 = none → c2 = 0) := by
  obtain ⟨hs, hr, hh⟩ := h
  obtain ⟨A1, c1, A2, c2, h1, h2, h3, h4, h5, h6, h7⟩ := hh i x hi
  obtain ⟨b, o, e, hb, hc⟩ := hr.get h1
  subst e
  obtain ⟨b', o', e', _, hc'⟩ := hr.get h2
  obtain ⟨b'', o'', e'', _, hc''⟩ := hr.get h3
  cases e'
  cases e''
  exact ⟨b, o, A1, c1, A2, c2, rfl, hb, hc, hc', hc'', h4, h5, h6, h7⟩
theorem RbW.keep {w w' : World} {B : Nat} {A : Option Addr} {ws : List Wr} (h : RbW w B A ws) (hk : ∀ p : Addr, p.block < B → w'.cell? p = w.cell? p) : RbW w' B A ws := by
  obtain ⟨hs, hr, hh⟩ := h
  refine ⟨hs, hr.keep hk, fun i x hi => ?_⟩
  obtain ⟨A1, c1, A2, c2, h1, h2, h3, h4, h5, h6, h7⟩ := hh i x hi
  exact ⟨A1, c1, A2, c2, h1, h2, h3, h4, h5.keep hk, h6, h7.1.keep hk, h7.2⟩
theorem RbW.below {w w' : World} {B : Nat} {A : Option Addr} {ws : List Wr} (h : RbW w B A ws) (hb : Below B w w') : RbW w' B A ws := h.keep fun _ hp => hb.cell hp
theorem RbW.more {w : World} {B B' : Nat} {A : Option Addr} {ws : List Wr} (h : RbW w B A ws) (hB : B ≤ B') : RbW w B' A ws := by
  obtain ⟨hs, hr, hh⟩ := h
  refine ⟨hs, hr.more hB, fun i x hi => ?_⟩
  obtain ⟨A1, c1, A2, c2, h1, h2, h3, h4, h5, h6, h7⟩ := hh i x hi
  exact ⟨A1, c1, A2, c2, h1, h2, h3, h4, h5.more hB, h6, h7.1.more hB, h7.2⟩
theorem RbW.belowS {w w' : World} {A : Option Addr} {ws : List Wr} (h : RbW w w.heap.size A ws) (hb : Below w.heap.size w w') : RbW w' w'.heap.size A ws := (h.below hb).more hb.size
theorem nil_of {w : World} {B : Nat} {A : Option Addr} {zs : List Int} (h : Rb w B A zs) (e : A = none) : zs = [] := by
  by_cases hz : zs = []
  · exact hz
  · obtain ⟨b, o, e', _⟩ := h (by simpa [bv] using hz)
    rw [e] at e'
    cases e'
theorem Rb.beside {w w' : World} {row : Option Nat} {A : Option Addr} {zs : List Int} (h : Rb w w.heap.size A zs) (hg : w.grownBy w' row) (hs : zs ≠ [] → ∀ a, A = some a → row ≠ some a.block) : Rb w' w'.heap.size A zs := fun hn => by
  obtain ⟨b, o, rfl, hb, hc⟩ := h hn
  exact ⟨b, o, rfl, Nat.lt_of_lt_of_le hb hg.size, fun j u hu => (World.cell?_of_block (a := ⟨b, o + j, none⟩) (hg.block b hb (fun e => hs (by simpa [bv] using hn) _ rfl e.symm))).trans (hc j u hu)⟩
theorem far_app {base : Nat} {e : TypeId} {size n : Nat} {w w' : World} {v v' : Value} {xs : List Value} {A : Option Addr} {zs : List Int} (k : App base e size w v w' v' n xs) (h : Rb w w.heap.size A zs) (hs : zs ≠ [] → ∀ a, A = some a → v.ownBlock ≠ some a.block) :
    zs ≠ [] → ∀ a, A = some a → v'.ownBlock ≠ some a.block := fun hz a ha e => by
  rcases k.block with hb | ⟨q, hq, hl⟩
  · exact hs hz a ha (hb.symm.trans e)
  · rw [hq] at e
    cases e
    obtain ⟨b, o, e2, hb, _⟩ := h (by simpa [bv] using hz)
    rw [ha] at e2
    cases e2
    simp at hl
    omega
/-- The three cells of a write whose bytes lie below B, from block lo on, and not in block r. -/
def WrAt (w : World) (lo B : Nat) (r : Option Nat) (hs : List Value) (i : Nat) (x : Wr) : Prop :=
  ∃ A1 c1 A2 c2, hs[i * 3]? = some (Value.int .i64 x.kind) ∧ hs[i * 3 + 1]? = some (Value.slice A1 x.key.length c1) ∧ hs[i * 3 + 2]? = some (Value.slice A2 x.val.length c2) ∧
    x.key.length ≤ c1 ∧ Rb w B A1 x.key ∧ x.val.length ≤ c2 ∧ Rb w B A2 x.val ∧ (x.key ≠ [] → ∀ a, A1 = some a → r ≠ some a.block) ∧ (x.val ≠ [] → ∀ a, A2 = some a → r ≠ some a.block) ∧ (x.key ≠ [] → ∀ a, A1 = some a → lo ≤ a.block) ∧ (x.val ≠ [] → ∀ a, A2 = some a → lo ≤ a.block) ∧ (A1 = none → c1 = 0) ∧ (A2 = none → c2 = 0)
theorem WrAt.beside {w w' : World} {lo : Nat} {r row : Option Nat} {hs : List Value} {i : Nat} {x : Wr} (h : WrAt w lo w.heap.size r hs i x) (hg : w.grownBy w' row) (hr : ∀ k, row = some k → k < lo) : WrAt w' lo w'.heap.size r hs i x := by
  obtain ⟨A1, c1, A2, c2, h1, h2, h3, h4, h5, h6, h7, h8, h9, h10, h11, h12⟩ := h
  exact ⟨A1, c1, A2, c2, h1, h2, h3, h4, h5.beside hg (fun hz a ha e => by have := hr _ e; have := h10 hz a ha; omega), h6, h7.beside hg (fun hz a ha e => by have := hr _ e; have := h11 hz a ha; omega), h8, h9, h10, h11, h12⟩
theorem WrAt.app {base lo : Nat} {e : TypeId} {size n i : Nat} {w w' : World} {v v' : Value} {xs hs more : List Value} {x : Wr} (h : WrAt w lo w.heap.size v.ownBlock hs i x) (k : App base e size w v w' v' n xs) : WrAt w' lo w'.heap.size v'.ownBlock (hs ++ more) i x := by
  obtain ⟨A1, c1, A2, c2, h1, h2, h3, h4, h5, h6, h7, h8, h9, h10, h11, h12⟩ := h
  have lt : ∀ {j : Nat} {u : Value}, hs[j]? = some u → (hs ++ more)[j]? = some u := fun {j u} hj => by
    rw [List.getElem?_append_left (List.getElem?_eq_some_iff.1 hj).1]; exact hj
  exact ⟨A1, c1, A2, c2, lt h1, lt h2, lt h3, h4, h5.beside k.grown h8, h6, h7.beside k.grown h9, far_app k h5 h8, far_app k h7 h9, h10, h11, h12⟩
/-- A row of writes that grows: its cells, and bytes that lie elsewhere, from block lo on. -/
structure WsM (e : TypeId) (W : World) (lo : Nat) (A : Option Addr) (j c : Nat) (acc : List Wr) (hs : List Value) : Prop where
  own : W.ownsRow lo e 3 (.slice A j c) j hs
  ats : ∀ (i : Nat) (x : Wr), acc[i]? = some x → WrAt W lo W.heap.size (Value.slice A j c).ownBlock hs i x
  len : acc.length = j
  hlo : lo ≤ W.heap.size
section
variable {e : TypeId} {W W' : World} {lo : Nat} {A : Option Addr} {j c : Nat} {acc : List Wr} {hs : List Value}
theorem WsM.nil (e : TypeId) (W : World) {lo : Nat} (h : lo ≤ W.heap.size) : WsM e W lo none 0 0 [] [] := ⟨World.ownsRow_nil _ _ _ _, fun i x h => by simp at h, rfl, h⟩
theorem WsM.beside {row : Option Nat} (h : WsM e W lo A j c acc hs) (hg : W.grownBy W' row) (hr : ∀ k, row = some k → k < lo) : WsM e W' lo A j c acc hs :=
  ⟨h.own.kept hg (by
    cases hv : (Value.slice A j c).ownBlock with
    | none => exact .inl rfl
    | some k => exact .inr fun q => by have := hr k q.symm; have := (h.own.lt k hv).1; omega), fun i x hx => (h.ats i x hx).beside hg hr, h.len, Nat.le_trans h.hlo hg.size⟩
theorem WsM.below (h : WsM e W lo A j c acc hs) (hb : Below W.heap.size W W') : WsM e W' lo A j c acc hs :=
  h.beside (row := none) ⟨hb.os, hb.tape, hb.output, hb.size, fun k hk _ => hb.block k hk⟩ (fun _ h => by cases h)
theorem WsM.rbw (h : WsM e W lo A j c acc hs) : RbW W W.heap.size A acc :=
  ⟨hs, Rd.of_own h.own, fun i x hx => by
    obtain ⟨A1, c1, A2, c2, h1, h2, h3, h4, h5, h6, h7, h8, h9, h10, h11, h12⟩ := h.ats i x hx
    exact ⟨A1, c1, A2, c2, h1, h2, h3, h4, h5, h6, h7, h12⟩⟩
theorem WsM.push {A1 A2 : Option Addr} {c1 c2 : Nat} {x : Wr} (h : WsM e W lo A j c acc hs) {A' : Option Addr} {c' : Nat}
    (k : App lo e 3 W (.slice A j c) W' (.slice A' (j + 1) c') (j + 1) (hs ++ [.int .i64 x.kind, .slice A1 x.key.length c1, .slice A2 x.val.length c2]))
    (r1 : Rb W W.heap.size A1 x.key) (l1 : x.key.length ≤ c1) (r2 : Rb W W.heap.size A2 x.val) (l2 : x.val.length ≤ c2)
    (b1 : x.key ≠ [] → ∀ a, A1 = some a → lo ≤ a.block ∧ (Value.slice A j c).ownBlock ≠ some a.block) (b2 : x.val ≠ [] → ∀ a, A2 = some a → lo ≤ a.block ∧ (Value.slice A j c).ownBlock ≠ some a.block)
    (z1 : A1 = none → c1 = 0) (z2 : A2 = none → c2 = 0) :
    WsM e W' lo A' (j + 1) c' (acc ++ [x]) (hs ++ [.int .i64 x.kind, .slice A1 x.key.length c1, .slice A2 x.val.length c2]) := by
  have hg := k.grown
  have hl : hs.length = j * 3 := h.own.1
  refine ⟨k.own, fun i y hy => ?_, by simp [h.len], Nat.le_trans h.hlo hg.size⟩
  by_cases hi : i < acc.length
  · rw [List.getElem?_append_left hi] at hy
    exact (h.ats i y hy).app k
  · have hij : i = j := by
      have := (List.getElem?_eq_some_iff.1 hy).1
      simp at this
      have := h.len
      omega
    subst hij
    rw [List.getElem?_append_right (by omega)] at hy
    have hy2 : y = x := by
      have : i - acc.length = 0 := by have := h.len; omega
      rw [this] at hy
      simpa using hy.symm
    subst hy2
    exact ⟨A1, c1, A2, c2, by rw [List.getElem?_append_right (by omega)]; simp [hl], by rw [List.getElem?_append_right (by omega)]; simp [hl], by rw [List.getElem?_append_right (by omega)]; simp [hl],
      l1, r1.beside hg (fun z a ha => (b1 z a ha).2), l2, r2.beside hg (fun z a ha => (b2 z a ha).2), far_app k r1 (fun z a ha => (b1 z a ha).2), far_app k r2 (fun z a ha => (b2 z a ha).2), fun z a ha => (b1 z a ha).1, fun z a ha => (b2 z a ha).1, z1, z2⟩
end
end Go.Proofs.Ytlamebbolioljaa

/- A row of writes that grows, their bytes below block u or from block lo on (Wrs, with u). -/
namespace Go.Proofs.Ytlamebbolioljaa
open Go.RowKit
/-- The three cells of a write whose bytes lie below B, below block u or from block lo on, and not in block r. -/
def WrAtU (w : World) (u lo B : Nat) (r : Option Nat) (hs : List Value) (i : Nat) (x : Wr) : Prop :=
  ∃ A1 c1 A2 c2, hs[i * 3]? = some (Value.int .i64 x.kind) ∧ hs[i * 3 + 1]? = some (Value.slice A1 x.key.length c1) ∧ hs[i * 3 + 2]? = some (Value.slice A2 x.val.length c2) ∧
    x.key.length ≤ c1 ∧ Rb w B A1 x.key ∧ x.val.length ≤ c2 ∧ Rb w B A2 x.val ∧ (x.key ≠ [] → ∀ a, A1 = some a → r ≠ some a.block) ∧ (x.val ≠ [] → ∀ a, A2 = some a → r ≠ some a.block) ∧ (x.key ≠ [] → ∀ a, A1 = some a → a.block < u ∨ lo ≤ a.block) ∧ (x.val ≠ [] → ∀ a, A2 = some a → a.block < u ∨ lo ≤ a.block) ∧ (A1 = none → c1 = 0) ∧ (A2 = none → c2 = 0)
theorem WrAtU.beside {w w' : World} {u lo : Nat} {r row : Option Nat} {hs : List Value} {i : Nat} {x : Wr} (h : WrAtU w u lo w.heap.size r hs i x) (hg : w.grownBy w' row) (hr : ∀ k, row = some k → u ≤ k ∧ k < lo) : WrAtU w' u lo w'.heap.size r hs i x := by
  obtain ⟨A1, c1, A2, c2, h1, h2, h3, h4, h5, h6, h7, h8, h9, h10, h11, h12⟩ := h
  exact ⟨A1, c1, A2, c2, h1, h2, h3, h4, h5.beside hg (fun hz a ha e => by have := hr _ e; have := h10 hz a ha; omega), h6, h7.beside hg (fun hz a ha e => by have := hr _ e; have := h11 hz a ha; omega), h8, h9, h10, h11, h12⟩
theorem WrAtU.app {base u lo : Nat} {e : TypeId} {size n i : Nat} {w w' : World} {v v' : Value} {xs hs more : List Value} {x : Wr} (h : WrAtU w u lo w.heap.size v.ownBlock hs i x) (k : App base e size w v w' v' n xs) : WrAtU w' u lo w'.heap.size v'.ownBlock (hs ++ more) i x := by
  obtain ⟨A1, c1, A2, c2, h1, h2, h3, h4, h5, h6, h7, h8, h9, h10, h11, h12⟩ := h
  have lt : ∀ {j : Nat} {v : Value}, hs[j]? = some v → (hs ++ more)[j]? = some v := fun {j v} hj => by
    rw [List.getElem?_append_left (List.getElem?_eq_some_iff.1 hj).1]; exact hj
  exact ⟨A1, c1, A2, c2, lt h1, lt h2, lt h3, h4, h5.beside k.grown h8, h6, h7.beside k.grown h9, far_app k h5 h8, far_app k h7 h9, h10, h11, h12⟩
/-- A row of writes that grows: its cells, and bytes that lie elsewhere, below u or from block lo on. -/
structure WsU (e : TypeId) (W : World) (u lo : Nat) (A : Option Addr) (j c : Nat) (acc : List Wr) (hs : List Value) : Prop where
  own : W.ownsRow lo e 3 (.slice A j c) j hs
  ats : ∀ (i : Nat) (x : Wr), acc[i]? = some x → WrAtU W u lo W.heap.size (Value.slice A j c).ownBlock hs i x
  len : acc.length = j
  hlo : lo ≤ W.heap.size
section
variable {e : TypeId} {W W' : World} {u lo : Nat} {A : Option Addr} {j c : Nat} {acc : List Wr} {hs : List Value}
theorem WsU.nil (e : TypeId) (W : World) {u lo : Nat} (h : lo ≤ W.heap.size) : WsU e W u lo none 0 0 [] [] := ⟨World.ownsRow_nil _ _ _ _, fun i x h => by simp at h, rfl, h⟩
theorem WsU.beside {row : Option Nat} (h : WsU e W u lo A j c acc hs) (hg : W.grownBy W' row) (hr : ∀ k, row = some k → u ≤ k ∧ k < lo) : WsU e W' u lo A j c acc hs :=
  ⟨h.own.kept hg (by
    cases hv : (Value.slice A j c).ownBlock with
    | none => exact .inl rfl
    | some k => exact .inr fun q => by have := (hr k q.symm).2; have := (h.own.lt k hv).1; omega), fun i x hx => (h.ats i x hx).beside hg hr, h.len, Nat.le_trans h.hlo hg.size⟩
theorem WsU.below (h : WsU e W u lo A j c acc hs) (hb : Below W.heap.size W W') : WsU e W' u lo A j c acc hs :=
  h.beside (row := none) ⟨hb.os, hb.tape, hb.output, hb.size, fun k hk _ => hb.block k hk⟩ (fun _ h => by cases h)
theorem WsU.rbw (h : WsU e W u lo A j c acc hs) : RbW W W.heap.size A acc :=
  ⟨hs, Rd.of_own h.own, fun i x hx => by
    obtain ⟨A1, c1, A2, c2, h1, h2, h3, h4, h5, h6, h7, h8, h9, h10, h11, h12⟩ := h.ats i x hx
    exact ⟨A1, c1, A2, c2, h1, h2, h3, h4, h5, h6, h7, h12⟩⟩
theorem WsU.push {A1 A2 : Option Addr} {c1 c2 : Nat} {x : Wr} (h : WsU e W u lo A j c acc hs) {A' : Option Addr} {c' : Nat}
    (k : App lo e 3 W (.slice A j c) W' (.slice A' (j + 1) c') (j + 1) (hs ++ [.int .i64 x.kind, .slice A1 x.key.length c1, .slice A2 x.val.length c2]))
    (r1 : Rb W W.heap.size A1 x.key) (l1 : x.key.length ≤ c1) (r2 : Rb W W.heap.size A2 x.val) (l2 : x.val.length ≤ c2)
    (b1 : x.key ≠ [] → ∀ a, A1 = some a → (a.block < u ∨ lo ≤ a.block) ∧ (Value.slice A j c).ownBlock ≠ some a.block) (b2 : x.val ≠ [] → ∀ a, A2 = some a → (a.block < u ∨ lo ≤ a.block) ∧ (Value.slice A j c).ownBlock ≠ some a.block)
    (z1 : A1 = none → c1 = 0) (z2 : A2 = none → c2 = 0) :
    WsU e W' u lo A' (j + 1) c' (acc ++ [x]) (hs ++ [.int .i64 x.kind, .slice A1 x.key.length c1, .slice A2 x.val.length c2]) := by
  have hg := k.grown
  have hl : hs.length = j * 3 := h.own.1
  refine ⟨k.own, fun i y hy => ?_, by simp [h.len], Nat.le_trans h.hlo hg.size⟩
  by_cases hi : i < acc.length
  · rw [List.getElem?_append_left hi] at hy
    exact (h.ats i y hy).app k
  · have hij : i = j := by
      have := (List.getElem?_eq_some_iff.1 hy).1
      simp at this
      have := h.len
      omega
    subst hij
    rw [List.getElem?_append_right (by omega)] at hy
    have hy2 : y = x := by
      have : i - acc.length = 0 := by have := h.len; omega
      rw [this] at hy
      simpa using hy.symm
    subst hy2
    exact ⟨A1, c1, A2, c2, by rw [List.getElem?_append_right (by omega)]; simp [hl], by rw [List.getElem?_append_right (by omega)]; simp [hl], by rw [List.getElem?_append_right (by omega)]; simp [hl],
      l1, r1.beside hg (fun z a ha => (b1 z a ha).2), l2, r2.beside hg (fun z a ha => (b2 z a ha).2), far_app k r1 (fun z a ha => (b1 z a ha).2), far_app k r2 (fun z a ha => (b2 z a ha).2), fun z a ha => (b1 z a ha).1, fun z a ha => (b2 z a ha).1, z1, z2⟩
end
end Go.Proofs.Ytlamebbolioljaa

/- put of schema.Writes: a write, if its key is new. -/
namespace Go.Proofs.Ytlamebbolioljaa
open Go.RowKit
theorem loadKy_shutZ (a : Addr) : loadVar 26 a = loadK 26 a := rfl
attribute [local go_sem ↓] loadKy_shutZ

theorem wrinfo : (Try.prog.info? 48).map (fun i => (i.zero, i.size, i.bytes)) = some (some (.agg #[.int .i64 0, .slice none 0 0, .slice none 0 0]), 3, 56) := by kernel_rfl
/-- append of one write. -/
theorem wpList_appW (w : World) {ops : Array Oper} {rest : List Oper} {o : Oper} {a : Act} {Q : Exit → Act → World → Prop} (hgd : o.guard = none) (s x : Operand)
    (ho : o.op = .call { callee := .builtin .append, args := #[s, x], argTypes := #[38, 38] })
    (base : Nat) (v : Value) (n : Nat) (xs : List Value) (hs : a.eval s = v) (hown : w.ownsRow base 48 3 v n xs)
    (B : Nat) (A : Option Addr) (c : Nat) (news : List Value) (hx : a.eval x = .slice A 1 c) (hl : news.length = 3) (hr : Rd w B A news) (h1 : ∀ u ∈ news, u.oneCell' = true)
    (hbytes : n ≤ 1048576) (hbase : base ≤ w.heap.size)
    (h : ∀ A' c' w', App base 48 3 w v w' (.slice A' (n + 1) c') (n + 1) (xs ++ news) → wpList Try.prog ops Q rest (a.put o.dst (.slice A' (n + 1) c')) w') :
    wpList Try.prog ops Q (o :: rest) a w := by
  obtain ⟨i0, hi0, hz0, hz1, hz2⟩ := info_parts wrinfo
  refine wpList_app w hgd s x _ ho base 48 i0 _ 3 56 Try.underlying38 hi0 hz0 hz1 hz2 rfl (by omega) v n xs hs hown B A 1 c news hx (by rw [hl]) hr h1 (by simp only [maxLen]; omega) (by omega) hbase ?_
  intro A' c' w' h1 h2 h3 h4
  exact h A' c' w' ((App.refl hown).step h1 h2 h3)

/-- The strings of keys. -/
def keyStrs (acc : List Wr) : List ByteArray := acc.map fun x => strOfNums x.key
def putW (acc : List Wr) (k : Ky) (v : List Int) : List Wr := if hasS (keyStrs acc) (strOfNums (packOf k).1) = true then acc else acc ++ [⟨1, (packOf k).1, v⟩]
/-- The memory of put: the set's box, the set, the list's box, the list. -/
structure PuM (w0 W : World) (gm mb gx lo : Nat) (A : Option Addr) (j c : Nat) (acc : List Wr) (hs : List Value) : Prop where
  bm : Bk W gm 55 #[.map (some mb)]
  ms : MpS W mb (keyStrs acc)
  bx : Bk W gx 38 #[.slice A j c]
  ws : WsU 48 W w0.heap.size lo A j c acc hs
  bel : Below w0.heap.size w0 W
  ge : w0.heap.size ≤ gm ∧ w0.heap.size ≤ mb ∧ w0.heap.size ≤ gx
  lt : gm < lo ∧ mb < lo ∧ gx < lo
  ne : gm ≠ mb ∧ gm ≠ gx ∧ mb ≠ gx
/-- What put leaves alone. -/
def PuF (W w' : World) (mb gx : Nat) (v v' : Value) : Prop :=
  W.heap.size ≤ w'.heap.size ∧ (∀ b, b < W.heap.size → b ≠ mb → b ≠ gx → v.ownBlock ≠ some b → w'.heap[b]? = W.heap[b]?) ∧ (v'.ownBlock = v.ownBlock ∨ ∃ b, v'.ownBlock = some b ∧ W.heap.size ≤ b)
section
variable {w0 W W' : World} {gm mb gx lo : Nat} {A : Option Addr} {j c : Nat} {acc : List Wr} {hs : List Value}
theorem PuM.below (h : PuM w0 W gm mb gx lo A j c acc hs) (hb : Below W.heap.size W W') : PuM w0 W' gm mb gx lo A j c acc hs :=
  ⟨h.bm.below hb h.bm.lt, h.ms.bS hb, h.bx.below hb h.bx.lt, h.ws.below hb, h.bel.trans (hb.mono h.bel.size), h.ge, h.lt, h.ne⟩
end
def PuPost (w0 W : World) (gm mb gx lo : Nat) (A : Option Addr) (j c : Nat) (acc' : List Wr) (e : Ending) (w' : World) : Prop :=
  (∃ v, e = .returned v) ∧ ∃ A' j' c' hs', PuM w0 w' gm mb gx lo A' j' c' acc' hs' ∧ j' ≤ j + 1 ∧ PuF W w' mb gx (.slice A j c) (.slice A' j' c')
theorem zeroB (w : World) : (zeroValue 4).run Try.prog w = .ok (.bool false) w := by kernel_rfl
set_option maxRecDepth 100000 in
set_option maxHeartbeats 4000000 in
theorem scPut {w0 W : World} {gm mb gx lo j c nv cv : Nat} {A Va : Option Addr} {acc : List Wr} {hs : List Value} (k : Ky) (vs : List Int) (h : PuM w0 W gm mb gx lo A j c acc hs) (hu : k.U64) (hj : j ≤ 10000)
    (hv : Rb W W.heap.size Va vs) (hnv : vs.length = nv) (hcv : nv ≤ cv) (hvb : vs ≠ [] → ∀ a, Va = some a → (a.block < w0.heap.size ∨ lo ≤ a.block) ∧ (Value.slice A j c).ownBlock ≠ some a.block) (hvz : Va = none → cv = 0) :
    Calls Try.prog 42 #[kyV k, .slice Va nv cv, .pointer (some ⟨gm, 0, none⟩), .pointer (some ⟨gx, 0, none⟩)] W (PuPost w0 W gm mb gx lo A j c (putW acc k vs)) := by
  obtain ⟨r, hr⟩ : ∃ r, packOf k = r := ⟨_, rfl⟩
  have hpu : putW acc k vs = if hasS (keyStrs acc) (strOfNums r.1) = true then acc else acc ++ [⟨1, r.1, vs⟩] := by rw [← hr]; rfl
  rw [hpu]
  obtain ⟨q, hq⟩ : ∃ q, hasS (keyStrs acc) (strOfNums r.1) = q := ⟨_, rfl⟩
  rw [hq]
  have HQ := Lib.hid hq
  have hb0 : Below W.heap.size W (W.alloc (.cells (kyC k) 26)) := (Below.refl _ W).alloc (Nat.le_refl _) _
  have bk := Bk.new W 26 (kyC k)
  obtain ⟨w1, hw1⟩ : ∃ w1, W.alloc (.cells (kyC k) 26) = w1 := ⟨_, rfl⟩
  rw [hw1] at hb0 bk
  have la := loadK_ky bk
  have hc := scPackK k w1 hu
  rw [hr] at hc
  have HC := Lib.hid hc
  have HW := Lib.hid hw1
  have HB0 := Lib.hid hb0
  have HM := Lib.hid h
  clear hr hpu hw1 hc h bk hq
  go_enter Try.func42, Try.ntmps42
  go_upto_region 1 with fail
  rw [HW.out]
  go_upto_region 2 with (go_at_call 10; refine HC.out.mono ?_; rintro e w2 ⟨A2, c2, rfl, hr2, hb2, hl2, hz2, hk2⟩)
  have hbw : Below W.heap.size W w2 := HB0.out.trans (hb2.mono HB0.out.size)
  have m2 := HM.out.below hbw
  have km : w2.cell? ⟨gm, 0, none⟩ = some (.map (some mb)) := m2.bm.cell 0
  have kx : w2.cell? ⟨gx, 0, none⟩ = some (.slice A j c) := m2.bx.cell 0
  have es : (convert 27 9 (.slice A2 r.1.length c2)).run Try.prog w2 = .ok (.string (strOfNums r.1)) w2 := hr2.str (P := Try.prog) Try.underlying27 Try.underlying5 Try.underlying9 c2
  have hlk : (Instr.lookup 55 (.map (some mb)) (.string (strOfNums r.1)) false).run Try.prog w2 = .ok (.bool (hasS (keyStrs acc) (strOfNums r.1))) w2 := run_lookS Try.underlying55 Try.underlying9 (zeroB w2) m2.ms _
  rw [HQ.out] at hlk
  have HBW := Lib.hid hbw
  have HM2 := Lib.hid m2
  cases q with
  | true =>
    go_wp2
    go_end0
    exact ⟨⟨_, rfl⟩, A, j, c, hs, HM2.out, by omega, HBW.out.size, fun b hb _ _ _ => HBW.out.block b hb, .inl rfl⟩
  | false =>
    have hnm := hasS_not.1 HQ.out
    have hv2 : Rb w2 w2.heap.size Va vs := hv.belowS hbw
    have hw2 : W.heap.size ≤ w2.heap.size := hbw.size
    have hw1' : W.heap.size ≤ w1.heap.size := HB0.out.size
    have hltb := m2.lt
    have hge2 := m2.ge
    have hmbW : mb < W.heap.size := HM.out.ms.lt
    go_wp2_with (first
      | (refine wpList_updS _ rfl (.tmp 18) (.tmp 20) (.const (.bool true)) 55 rfl 9 4 Try.underlying55 Try.underlying9 mb (keyStrs acc) rfl m2.ms (strOfNums r.1) rfl rfl hnm ?_
         rintro w3 hm3 hg3 -
         have b3m := m2.bm.grown hg3 (fun e => m2.ne.1 (Option.some.inj e))
         have b3x := m2.bx.grown hg3 (fun e => m2.ne.2.2 (Option.some.inj e).symm)
         have ws3 := m2.ws.beside hg3 (fun k hk => by cases hk; exact ⟨hge2.2.1, hltb.2.1⟩)
         have kx3 : w3.cell? ⟨gx, 0, none⟩ = some (.slice A j c) := b3x.cell 0
         have hr3 : Rb w3 w3.heap.size A2 r.1 := hr2.beside hg3 (fun _ a ha e => by have h1 := hk2 a ha; have h2 := Option.some.inj e; omega)
         have hv3 : Rb w3 w3.heap.size Va vs := hv2.beside hg3 (fun hz a ha e => by have h1 := (hvb hz a ha).1; have h2 := Option.some.inj e; omega)
         have hlo3 := ws3.hlo)
      | (at_builtin
         go_loud (refine wpList_appW _ rfl (.tmp 21) (.tmp 25) rfl lo _ j hs rfl (ws3.own.alloc (.cells #[.int .i64 1, .slice A2 r.1.length c2, .slice Va nv cv] 48)) (w3.heap.size + 1) (some ⟨w3.heap.size, 0, none⟩) 1 [.int .i64 1, .slice A2 r.1.length c2, .slice Va nv cv] rfl rfl (Rd.lit w3 #[.int .i64 1, .slice A2 r.1.length c2, .slice Va nv cv] _) (by simp [Value.oneCell']) (by omega) (by simp; omega) ?_)
         intro A6 c6 w6 happ
         have b6x := (b3x.alloc (.cells #[.int .i64 1, .slice A2 r.1.length c2, .slice Va nv cv] 48)).grown happ.grown (fun e => by have := (ws3.own.lt gx e.symm).1; omega)
         have kx6 : w6.cell? ⟨gx, 0, none⟩ = some (.slice A j c) := b6x.cell 0
         have fx6 : w6.frozen? ⟨gx, 0, none⟩ = false := b6x.frozen 0))
    go_end0
    have hst : w6.grownBy (w6.setCell ⟨gx, 0, none⟩ (.slice A6 (j + 1) c6)) (some gx) := only_set (World.grownBy.refl _ _) _ _
    have hal : Below w3.heap.size w3 (w3.alloc (.cells #[.int .i64 1, .slice A2 r.1.length c2, .slice Va nv cv] 48)) := (Below.refl _ w3).alloc (Nat.le_refl _) _
    have hown : ∀ b, (Value.slice A j c).ownBlock = some b → lo ≤ b := fun b e => (ws3.own.lt b e).1
    have hge := m2.ge
    have hw03 : w0.heap.size ≤ w3.heap.size := Nat.le_trans m2.bel.size hg3.size
    have b2 : Below w0.heap.size w0 w3 := m2.bel.trans (grown_below hg3 m2.bel.size (fun b e => by cases e; exact hge.2.1))
    have b3 := b2.trans (hal.mono hw03)
    have b4 := b3.trans (grown_below happ.grown b3.size (fun b e => by have := hown b e; omega))
    have b5 := b4.trans (grown_below hst b4.size (fun b e => by cases e; exact hge.2.2))
    have hsz : w3.heap.size + 1 ≤ w6.heap.size := by have := happ.grown.size; simpa using this
    have hsz2 : w6.heap.size ≤ (w6.setCell ⟨gx, 0, none⟩ (.slice A6 (j + 1) c6)).heap.size := hst.size
    have hsz3 := hg3.size
    have hk : keyStrs (acc ++ [⟨1, r.1, vs⟩]) = keyStrs acc ++ [strOfNums r.1] := by simp [keyStrs]
    have wsa := ws3.below hal
    have wsb := wsa.push (x := ⟨1, r.1, vs⟩) (by rw [hnv]; exact happ) (hr3.belowS hal) hl2 (hv3.belowS hal) (by rw [hnv]; exact hcv)
      (fun _ a ha => by
        have h1 := hk2 a ha
        have h2 := HM.out.ws.hlo
        refine ⟨by omega, fun e => ?_⟩
        have h3 := (HM.out.ws.own.lt a.block e).2
        omega) hvb (fun e => (hz2 e).2) hvz
    rw [hnv] at wsb
    refine ⟨⟨_, rfl⟩, A6, j + 1, c6, _, ⟨?_, ?_, b6x.set 0 _, wsb.beside hst (fun b e => by cases e; exact ⟨hge2.2.2, hltb.2.2⟩), b5, hge, hltb, m2.ne⟩, Nat.le_refl _, by omega, fun b hb h1 h2 h3 => ?_, ?_⟩
    · exact ((b3m.alloc _).grown happ.grown (fun e => by have := hown gm e.symm; omega)).grown hst (fun e => m2.ne.2.1 (Option.some.inj e))
    · rw [hk]
      exact ((hm3.alloc _).grown happ.grown (fun e => by have := hown mb e.symm; omega)).grown hst (fun e => m2.ne.2.2 (Option.some.inj e))
    · have hbw2 : b < w2.heap.size := by omega
      have e1 := hst.block b (by omega) (fun e => h2 (Option.some.inj e))
      have e2 := happ.grown.block b (by simp; omega) (fun e => h3 e.symm)
      have e3 := hal.block b (by omega)
      have e4 := hg3.block b hbw2 (fun e => h1 (Option.some.inj e))
      exact e1.trans (e2.trans (e3.trans (e4.trans (HBW.out.block b hb))))
    · rcases happ.block with h | ⟨b, h1, h2⟩
      · exact .inl h
      · exact .inr ⟨b, h1, by simp at h2; omega⟩
end Go.Proofs.Ytlamebbolioljaa

/- What Writes answers. Plain. -/
namespace Go.Proofs.Ytlamebbolioljaa
open Go.RowKit

/-- The key of a trace. -/
def trKey (e : AE) : Ky := ⟨116, e.a.s.hi, e.a.s.lo, 0, ⟨#[]⟩, ⟨#[]⟩, ⟨#[]⟩, 0, 0⟩
/-- The writes of one span's keys from the i-th on: the first bears the span. -/
def wrKeys (zs : List Int) : List Ky → Nat → List Wr → List Wr
  | [], _, acc => acc
  | k :: ks, i, acc => wrKeys zs ks (i + 1) (putW acc k (if i = 0 then zs else []))
def wrSpan (acc : List Wr) (e : AE) : List Wr := wrKeys (adEnc e.a) (keysOf e.a.s) 0 acc
def wrAll : List AE → List Wr
  | [] => []
  | e :: l => (e :: l).foldl wrSpan (putW [] (trKey e) (recEnc (l.length + 1) (bnds (e :: l)).1.toNat (bnds (e :: l)).2.toNat))
/-- The first span's error. -/
def wrErr : List AE → Nat
  | [] => 0
  | e :: l => if adChk e.a ≠ 0 then adChk e.a else wrErr l
/-- Is the i-th span of another trace than the first, or not behind the one ahead? -/
def badAt (l : List AE) (i : Nat) : Bool :=
  match l[0]?, l[i]? with
  | some h, some e => !(decide (e.a.s.hi = h.a.s.hi) && decide (e.a.s.lo = h.a.s.lo)) || (decide (0 < i) && (match l[i - 1]? with | some p => decide (e.a.s.id ≤ p.a.s.id) | none => false))
  | _, _ => false
def wrBad (l : List AE) : Bool := (List.range l.length).any (badAt l)
def wrOut (l : List AE) : List Wr × Nat :=
  if l.length = 0 then ([], 2) else if 32 < l.length then ([], 3) else if wrErr l ≠ 0 then ([], wrErr l) else if wrBad l = true then ([], 2)
  else if 1024 < (wrAll l).length then ([], 3) else (wrAll l, 0)

theorem putW_len (acc : List Wr) (k : Ky) (v : List Int) : (putW acc k v).length ≤ acc.length + 1 := by
  unfold putW
  by_cases h : hasS (keyStrs acc) (strOfNums (packOf k).1) = true
  · rw [if_pos h]; omega
  · rw [if_neg h]; simp
theorem wrKeys_len (zs : List Int) : ∀ (ks : List Ky) (i : Nat) (acc : List Wr), (wrKeys zs ks i acc).length ≤ acc.length + ks.length
  | [], _, acc => Nat.le_refl _
  | k :: ks, i, acc => by
    have h1 := wrKeys_len zs ks (i + 1) (putW acc k (if i = 0 then zs else []))
    have h2 := putW_len acc k (if i = 0 then zs else [])
    simp only [wrKeys, List.length_cons]
    omega
theorem wrErr_zero : ∀ {l : List AE}, wrErr l = 0 → ∀ e ∈ l, adChk e.a = 0
  | [], _, e, h => by cases h
  | x :: l, h, e, he => by
    rw [wrErr] at h
    by_cases h0 : adChk x.a ≠ 0
    · rw [if_pos h0] at h; exact absurd h h0
    · rw [if_neg h0] at h
      rcases List.mem_cons.1 he with rfl | he
      · exact Decidable.not_not.1 h0
      · exact wrErr_zero h e he
end Go.Proofs.Ytlamebbolioljaa

/- Rows of byte slices as they lie ([][]byte): their bytes elsewhere; a row of them that grows. -/
namespace Go.Proofs.Ytlamebbolioljaa
open Go.RowKit

/-- The cell of a byte slice whose bytes lie from block lo on, and not in block r. -/
def VlAt (w : World) (lo B : Nat) (r : Option Nat) (hs : List Value) (i : Nat) (x : List Int) : Prop :=
  ∃ A c, hs[i]? = some (Value.slice A x.length c) ∧ x.length ≤ c ∧ Rb w B A x ∧ (x ≠ [] → ∀ a, A = some a → r ≠ some a.block) ∧ (x ≠ [] → ∀ a, A = some a → lo ≤ a.block) ∧ (A = none → c = 0)
theorem VlAt.beside {w w' : World} {lo : Nat} {r row : Option Nat} {hs : List Value} {i : Nat} {x : List Int} (h : VlAt w lo w.heap.size r hs i x) (hg : w.grownBy w' row) (hr : ∀ k, row = some k → k < lo) : VlAt w' lo w'.heap.size r hs i x := by
  obtain ⟨A, c, h1, h2, h3, h4, h5, h6⟩ := h
  exact ⟨A, c, h1, h2, h3.beside hg (fun hz a ha e => by have := hr _ e; have := h5 hz a ha; omega), h4, h5, h6⟩
theorem VlAt.app {base lo : Nat} {e : TypeId} {size n i : Nat} {w w' : World} {v v' : Value} {xs hs more : List Value} {x : List Int} (h : VlAt w lo w.heap.size v.ownBlock hs i x) (k : App base e size w v w' v' n xs) : VlAt w' lo w'.heap.size v'.ownBlock (hs ++ more) i x := by
  obtain ⟨A, c, h1, h2, h3, h4, h5, h6⟩ := h
  exact ⟨A, c, by rw [List.getElem?_append_left (List.getElem?_eq_some_iff.1 h1).1]; exact h1, h2, h3.beside k.grown h4, far_app k h3 h4, h5, h6⟩
/-- A row of byte slices that grows. -/
structure VsM (e : TypeId) (W : World) (lo : Nat) (A : Option Addr) (j c : Nat) (acc : List (List Int)) (hs : List Value) : Prop where
  own : W.ownsRow lo e 1 (.slice A j c) j hs
  ats : ∀ (i : Nat) (x : List Int), acc[i]? = some x → VlAt W lo W.heap.size (Value.slice A j c).ownBlock hs i x
  len : acc.length = j
  hlo : lo ≤ W.heap.size
section
variable {e : TypeId} {W W' : World} {lo : Nat} {A : Option Addr} {j c : Nat} {acc : List (List Int)} {hs : List Value}
theorem VsM.nil (e : TypeId) (W : World) {lo : Nat} (h : lo ≤ W.heap.size) : VsM e W lo none 0 0 [] [] := ⟨World.ownsRow_nil _ _ _ _, fun i x h => by simp at h, rfl, h⟩
theorem VsM.beside {row : Option Nat} (h : VsM e W lo A j c acc hs) (hg : W.grownBy W' row) (hr : ∀ k, row = some k → k < lo) : VsM e W' lo A j c acc hs :=
  ⟨h.own.kept hg (by
    cases hv : (Value.slice A j c).ownBlock with
    | none => exact .inl rfl
    | some k => exact .inr fun q => by have := hr k q.symm; have := (h.own.lt k hv).1; omega), fun i x hx => (h.ats i x hx).beside hg hr, h.len, Nat.le_trans h.hlo hg.size⟩
theorem VsM.below (h : VsM e W lo A j c acc hs) (hb : Below W.heap.size W W') : VsM e W' lo A j c acc hs :=
  h.beside (row := none) ⟨hb.os, hb.tape, hb.output, hb.size, fun k hk _ => hb.block k hk⟩ (fun _ h => by cases h)
theorem VsM.get (h : VsM e W lo A j c acc hs) {i : Nat} {x : List Int} (hi : acc[i]? = some x) :
    ∃ b o A1 c1, A = some ⟨b, o, none⟩ ∧ b < W.heap.size ∧ W.cell? ⟨b, o + i, none⟩ = some (.slice A1 x.length c1) ∧ x.length ≤ c1 ∧ Rb W W.heap.size A1 x ∧ (A1 = none → c1 = 0) := by
  obtain ⟨A1, c1, h1, h2, h3, h4, h5, h6⟩ := h.ats i x hi
  obtain ⟨b, o, e, hb, hc⟩ := (Rd.of_own h.own).get h1
  exact ⟨b, o, A1, c1, e, hb, hc, h2, h3, h6⟩
theorem VsM.push {A1 : Option Addr} {c1 : Nat} {x : List Int} (h : VsM e W lo A j c acc hs) {A' : Option Addr} {c' : Nat}
    (k : App lo e 1 W (.slice A j c) W' (.slice A' (j + 1) c') (j + 1) (hs ++ [.slice A1 x.length c1]))
    (r1 : Rb W W.heap.size A1 x) (l1 : x.length ≤ c1) (b1 : x ≠ [] → ∀ a, A1 = some a → lo ≤ a.block ∧ (Value.slice A j c).ownBlock ≠ some a.block) (z1 : A1 = none → c1 = 0) :
    VsM e W' lo A' (j + 1) c' (acc ++ [x]) (hs ++ [.slice A1 x.length c1]) := by
  have hg := k.grown
  have hl : hs.length = j * 1 := h.own.1
  refine ⟨k.own, fun i y hy => ?_, by simp [h.len], Nat.le_trans h.hlo hg.size⟩
  by_cases hi : i < acc.length
  · rw [List.getElem?_append_left hi] at hy
    exact (h.ats i y hy).app k
  · have hij : i = j := by
      have := (List.getElem?_eq_some_iff.1 hy).1
      simp at this
      have := h.len
      omega
    subst hij
    rw [List.getElem?_append_right (by omega)] at hy
    have hy2 : y = x := by
      have : i - acc.length = 0 := by have := h.len; omega
      rw [this] at hy
      simpa using hy.symm
    subst hy2
    exact ⟨A1, c1, by rw [List.getElem?_append_right (by omega)]; simp [hl], l1, r1.beside hg (fun z a ha => (b1 z a ha).2), far_app k r1 (fun z a ha => (b1 z a ha).2), fun z a ha => (b1 z a ha).1, z1⟩
end
end Go.Proofs.Ytlamebbolioljaa

/- schema.Writes: the ways out ahead of the loops; the values. -/
namespace Go.Proofs.Ytlamebbolioljaa
open Go.RowKit
theorem loadAd_shutU (a : Addr) : loadVar 45 a = loadK 45 a := rfl
attribute [local go_sem ↓] loadAd_shutU

/-- What Writes hands back. -/
def WrsPost (w : World) (r : List Wr × Nat) (e : Ending) (w' : World) : Prop :=
  ∃ A c, e = .returned (.tuple #[.slice A r.1.length c, .int .i64 r.2]) ∧ RbW w' w'.heap.size A r.1 ∧ Below w.heap.size w w' ∧ r.1.length ≤ c
theorem WrsPost.no {w w' : World} {q : Nat} (hb : Below w.heap.size w w') : WrsPost w ([], q) (.returned (.tuple #[.slice none 0 0, .int .i64 q])) w' :=
  ⟨none, 0, rfl, ⟨[], Rd.nil, fun i x h => by simp at h⟩, hb, Nat.le_refl _⟩
theorem scWritesNone (w : World) (c : Nat) (A : Option Addr) : Calls Try.prog 18 #[.slice A 0 c] w (WrsPost w ([], 2)) := by
  go_enter Try.func18, Try.ntmps18
  go_wp2
  go_ret2
  exact WrsPost.no (Below.refl _ _)
theorem scWritesLong (w : World) (n c : Nat) (A : Option Addr) (h : 32 < n) : Calls Try.prog 18 #[.slice A n c] w (WrsPost w ([], 3)) := by
  have h0 : ((n : Int) == 0) = false := by simp; omega
  have h1 : decide ((32 : Int) < (n : Int)) = true := by simp; omega
  go_enter Try.func18, Try.ntmps18
  go_wp2
  go_ret2
  exact WrsPost.no (Below.refl _ _)
theorem vlinfo : (Try.prog.info? 27).map (fun i => (i.zero, i.size, i.bytes)) = some (some (.slice none 0 0), 1, 24) := by kernel_rfl
/-- append of one byte slice to a row of them. -/
theorem wpList_appV (w : World) {ops : Array Oper} {rest : List Oper} {o : Oper} {a : Act} {Q : Exit → Act → World → Prop} (hgd : o.guard = none) (s x : Operand)
    (ho : o.op = .call { callee := .builtin .append, args := #[s, x], argTypes := #[84, 84] })
    (base : Nat) (v : Value) (n : Nat) (xs : List Value) (hs : a.eval s = v) (hown : w.ownsRow base 27 1 v n xs)
    (B : Nat) (A : Option Addr) (c : Nat) (news : List Value) (hx : a.eval x = .slice A 1 c) (hl : news.length = 1) (hr : Rd w B A news) (h1 : ∀ u ∈ news, u.oneCell' = true)
    (hbytes : n ≤ 1048576) (hbase : base ≤ w.heap.size)
    (h : ∀ A' c' w', App base 27 1 w v w' (.slice A' (n + 1) c') (n + 1) (xs ++ news) → wpList Try.prog ops Q rest (a.put o.dst (.slice A' (n + 1) c')) w') :
    wpList Try.prog ops Q (o :: rest) a w := by
  obtain ⟨i0, hi0, hz0, hz1, hz2⟩ := info_parts vlinfo
  refine wpList_app w hgd s x _ ho base 27 i0 _ 1 24 Try.underlying84 hi0 hz0 hz1 hz2 rfl (by omega) v n xs hs hown B A 1 c news hx (by rw [hl]) hr h1 (by simp only [maxLen]; omega) (by omega) hbase ?_
  intro A' c' w' h1 h2 h3 h4
  exact h A' c' w' ((App.refl hown).step h1 h2 h3)
end Go.Proofs.Ytlamebbolioljaa

/- A row of the call's own whose block bears a mark that freezes none of its cells ('[]byte(s)' lays one): append onto it; the words of Lib once more. -/
namespace Go.Proofs.Ytlamebbolioljaa
open Go.RowKit

/-- No cell below k is frozen by the mark. -/
def FreeT (fz : Nat × Nat) (k : Nat) : Prop := k ≤ fz.1 ∨ fz.2 = 0
theorem FreeT.not {fz : Nat × Nat} {k i : Nat} (h : FreeT fz k) (hi : i < k) : (decide (fz.1 ≤ i) && decide (i < fz.2)) = false := by
  rw [Bool.and_eq_false_iff, decide_eq_false_iff_not, decide_eq_false_iff_not]
  rcases h with h | h <;> omega

/-- As ownsRow, but for the block's mark. -/
def ownsT (w : World) (base : Nat) (e : TypeId) (size : Nat) (v : Value) (n : Nat) (xs : List Value) : Prop :=
  xs.length = n * size ∧
  ((v = .slice none 0 0 ∧ n = 0) ∨
   ∃ g cap cur fz, v = .slice (some ⟨g, 0, none⟩) n cap ∧ base ≤ g ∧ w.heap[g]? = some (.cells cur e fz) ∧ FreeT fz cur.size ∧ n ≤ cap ∧ cap ≤ maxLen ∧ cur.size = cap * size ∧ cur.toList.take (n * size) = xs)

section
variable {w : World} {base : Nat} {e : TypeId} {size : Nat} {v : Value} {n : Nat} {xs : List Value}
theorem ownsT.of (h : w.ownsRow base e size v n xs) : ownsT w base e size v n xs := by
  refine ⟨h.1, ?_⟩
  rcases h.2 with hn | ⟨g, cap, cur, hv, hb, hg, rest⟩
  · exact .inl hn
  · exact .inr ⟨g, cap, cur, (0, 0), hv, hb, hg, .inr rfl, rest⟩
theorem ownsT.lt (h : ownsT w base e size v n xs) : ∀ k, v.ownBlock = some k → base ≤ k ∧ k < w.heap.size := by
  intro k hk
  rcases h.2 with ⟨rfl, _⟩ | ⟨g, cap, cur, fz, rfl, hb, hg, _⟩
  · simp [Value.ownBlock] at hk
  · simp [Value.ownBlock] at hk
    subst hk
    exact ⟨hb, (Array.getElem?_eq_some_iff.1 hg).1⟩
theorem ownsT.kept {w' : World} {row : Option Nat} (h : ownsT w base e size v n xs) (hg : w.grownBy w' row) (hne : v.ownBlock = none ∨ v.ownBlock ≠ row) : ownsT w' base e size v n xs := by
  refine ⟨h.1, ?_⟩
  rcases h.2 with hn | ⟨g, cap, cur, fz, rfl, hb, hgg, rest⟩
  · exact .inl hn
  · refine .inr ⟨g, cap, cur, fz, rfl, hb, ?_, rest⟩
    rw [hg.block g (Array.getElem?_eq_some_iff.1 hgg).1 (by simpa [Value.ownBlock] using hne)]
    exact hgg
theorem ownsT.alloc (h : ownsT w base e size v n xs) (o : Obj) : ownsT (w.alloc o) base e size v n xs :=
  h.kept (World.grownBy_alloc w o none) (by cases hv : v.ownBlock <;> simp)
theorem ownsT.cells (h : ownsT w base e size v n xs) {g : Nat} (hg : v.ownBlock = some g) : ∀ j u, xs[j]? = some u → w.cell? ((⟨g, 0, none⟩ : Addr).add j) = some u := by
  intro j u hu
  rcases h.2 with ⟨rfl, _⟩ | ⟨g', cap, cur, fz, rfl, _, hgg, _, _, _, _, htake⟩
  · simp [Value.ownBlock] at hg
  · simp [Value.ownBlock] at hg
    subst hg
    have hadd : (⟨g', 0, none⟩ : Addr).add j = ⟨g', j, none⟩ := by unfold Addr.add; split <;> simp_all
    rw [hadd, cell_of_row w g' j cur e fz hgg]
    rw [← htake, List.getElem?_take] at hu
    split at hu
    · simpa using hu
    · cases hu
end

theorem run_storeCells_atT (P : Program) (g o : Nat) (t : TypeId) (fz : Nat × Nat) : ∀ (vs : List Value) (i : Nat) (cur : Array Value) (w : World), w.heap[g]? = some (.cells cur t fz) → FreeT fz cur.size → o + i + vs.length ≤ cur.size → (∀ v ∈ vs, v.oneCell' = true) →
    (storeCells ⟨g, o, none⟩ vs i).run P w = .ok () (w.setRow g (cur.toList.take (o + i) ++ vs ++ cur.toList.drop (o + i + vs.length)).toArray)
  | [], i, cur, w, hg, _, _, _ => by
    simp only [storeCells, List.append_nil, List.length_nil, Nat.add_zero, List.take_append_drop, Array.toArray_toList]
    rw [setRow_self w g cur t fz hg]
    rfl
  | v :: rest, i, cur, w, hg, hfz, hl, h1 => by
    have hi : o + i < cur.size := by simp at hl; omega
    have hadd : (⟨g, o, none⟩ : Addr).add i = ⟨g, o + i, none⟩ := by unfold Addr.add; split <;> simp_all
    have hcell : w.cell? ⟨g, o + i, none⟩ = some cur[o + i] := by simp [World.cell?, hg, hi]
    have hfro : w.frozen? ⟨g, o + i, none⟩ = false := by
      have := hfz.not hi
      obtain ⟨lo, hi'⟩ := fz
      simp only [World.frozen?, hg]
      exact this
    have hst : (store ((⟨g, o, none⟩ : Addr).add i) v).run P w = .ok () (w.setRow g (cur.setIfInBounds (o + i) v)) := by
      rw [hadd, run_store P w _ v _ (h1 v (by simp)), hcell]
      simp [hfro, setCell_eq_setRow w g (o + i) cur t fz v hg]
    have ih := run_storeCells_atT P g o t fz rest (i + 1) (cur.setIfInBounds (o + i) v) (w.setRow g (cur.setIfInBounds (o + i) v)) (setRow_heap w g cur _ t _ hg) (by rw [Array.size_setIfInBounds]; exact hfz) (by simp at hl ⊢; omega) (fun x hx => h1 x (by simp [hx]))
    simp only [storeCells, Sem.run_bind, hst, Result.andThen_ok, ih, setRow_setRow]
    congr 3
    have e := list_seg_step cur.toList (o + i) v rest (by simp at hl ⊢; omega)
    simpa [Array.toList_setIfInBounds, Nat.add_assoc] using e

section
variable {P : Program} (w : World)
theorem run_append_roomT (t ty e : TypeId) (i : TypeInfo) (ht : P.underlying t = some (.slice e)) (hi : P.info? e = some i)
    (g sLen sCap : Nat) (cur : Array Value) (fz : Nat × Nat) (hg : w.heap[g]? = some (.cells cur e fz)) (hfz : FreeT fz cur.size)
    (a : Addr) (m c : Nat) (news : List Value) (hl : news.length = m * i.size) (hnews : ∀ j u, news[j]? = some u → w.cell? (a.add j) = some u) (h1 : ∀ u ∈ news, u.oneCell' = true)
    (hroom : sLen + m ≤ sCap) (hfit : sLen * i.size + news.length ≤ cur.size) :
    (Builtin.append_ #[t, t] ty #[.slice (some ⟨g, 0, none⟩) sLen sCap, .slice (some a) m c]).run P w =
      .ok (.slice (some ⟨g, 0, none⟩) (sLen + m) sCap) (w.setRow g (cur.toList.take (sLen * i.size) ++ news ++ cur.toList.drop (sLen * i.size + news.length)).toArray) := by
  have hf := run_firstCells_some (P := P) w i.size m a m c news hl hnews
  have hst := run_storeCells_atT P g (sLen * i.size) e fz news 0 cur w hg hfz (by simpa using hfit) h1
  simp only [Nat.add_zero] at hst
  simp [Builtin.append_, run_underlying ht, sizeOf, typeInfo, hi, Builtin.lenOf, hroom, hf, Addr.add_lit, hst]

theorem run_append_ownT (base : Nat) (t ty e : TypeId) (i : TypeInfo) (z : Value) (size bytes : Nat) (ht : P.underlying t = some (.slice e)) (hi : P.info? e = some i) (hz : i.zero = some z)
    (hsize : i.size = size) (hby : i.bytes = bytes) (hzs : z.cells.size = size) (hsz : 0 < size)
    (v : Value) (n : Nat) (xs : List Value) (hown : ownsT w base e size v n xs)
    (a : Addr) (m c : Nat) (news : List Value) (hl : news.length = m * size) (hnews : ∀ j u, news[j]? = some u → w.cell? (a.add j) = some u) (h1 : ∀ u ∈ news, u.oneCell' = true)
    (h63 : n + m ≤ maxLen) (hbytes : (n + m) * bytes ≤ 140737488355328) (hbase : base ≤ w.heap.size) :
    ∃ v' w', (Builtin.append_ #[t, t] ty #[v, .slice (some a) m c]).run P w = .ok v' w' ∧ ownsT w' base e size v' (n + m) (xs ++ news) ∧ w.grownBy w' v.ownBlock ∧
      (v' = .slice none 0 0 ↔ v = .slice none 0 0 ∧ m = 0) ∧ (v'.ownBlock = v.ownBlock ∨ v'.ownBlock = some w.heap.size) := by
  rcases hown.2 with ⟨rfl, rfl⟩ | ⟨g, cap, cur, fz, rfl, hbg, hg, hfz, hnc, hcm, hcs, htake⟩
  · obtain ⟨v', w', r1, r2, r3, r4, r5⟩ := run_append_own_at (P := P) w base t ty e i z size bytes ht hi hz hsize hby hzs hsz (.slice none 0 0) 0 xs ⟨hown.1, .inl ⟨rfl, rfl⟩⟩ a m c news hl hnews h1 h63 hbytes hbase
    exact ⟨v', w', r1, ownsT.of r2, r3, r4, r5⟩
  · subst hsize
    subst hby
    have hsmall : n + m ≤ 9223372036854775807 := by simp only [maxLen] at h63; omega
    have hlen : (xs ++ news).length = (n + m) * i.size := by rw [List.length_append, hown.1, hl, Nat.add_mul]
    by_cases hroom : n + m ≤ cap
    · have hfit : n * i.size + news.length ≤ cur.size := by rw [hl, hcs, ← Nat.add_mul]; exact Nat.mul_le_mul_right _ hroom
      have hr := run_append_roomT (P := P) w t ty e i ht hi g n cap cur fz hg hfz a m c news hl hnews h1 hroom hfit
      have hsz2 : (cur.toList.take (n * i.size) ++ news ++ cur.toList.drop (n * i.size + news.length)).toArray.size = cur.size := by
        simp only [List.size_toArray, List.length_append, List.length_take, List.length_drop, Array.length_toList]
        omega
      refine ⟨_, _, hr, ⟨hlen, .inr ⟨g, cap, _, fz, rfl, hbg, setRow_heap w g cur _ e _ hg, by rw [hsz2]; exact hfz, hroom, hcm, by rw [hsz2]; exact hcs, ?_⟩⟩, ⟨rfl, rfl, rfl, by simp, fun k _ hk => setRow_other w g k _ (fun e => hk (by simp [Value.ownBlock, e]))⟩, by simp, .inl rfl⟩
      rw [htake, ← hlen]
      exact List.take_left
    · have holds : ∀ j u, xs[j]? = some u → w.cell? ((⟨g, 0, none⟩ : Addr).add j) = some u := hown.cells (g := g) rfl
      have hr := run_append_grow (P := P) w t ty e i z ht hi hz ⟨g, 0, none⟩ n cap xs hown.1 holds a m c news hl hnews (by omega) (by omega) (growslice_fits (by omega) hbytes)
      have hge := grownCap_ge w (n + m) cap e
      have hcm2 : grownCap w (n + m) cap e ≤ maxLen := grownCap_le_maxLen w (n + m) cap e h63
      refine ⟨_, _, hr, ⟨hlen, .inr ⟨w.heap.size, _, _, (0, 0), rfl, hbase, heap_alloc_new w.drew _, .inr rfl, hge, hcm2, ?_, ?_⟩⟩, ⟨rfl, rfl, rfl, by simp, fun k hk _ => heap_alloc_old w.drew _ hk⟩, by simp, .inr rfl⟩
      · simp only [Array.size_append, List.size_toArray, size_zeroCells, hzs, hown.1, hl, ← Nat.add_mul]
        congr 1
        omega
      · simp only [Array.toList_append, List.append_assoc]
        rw [← List.append_assoc, ← hlen]
        exact List.take_left

theorem run_appT2 (base : Nat) (t ty e : TypeId) (i : TypeInfo) (z : Value) (size bytes : Nat) (ht : P.underlying t = some (.slice e)) (hi : P.info? e = some i) (hz : i.zero = some z)
    (hsize : i.size = size) (hby : i.bytes = bytes) (hzs : z.cells.size = size) (hsz : 0 < size)
    (v : Value) (n : Nat) (xs : List Value) (hown : ownsT w base e size v n xs)
    (B : Nat) (A : Option Addr) (m c : Nat) (news : List Value) (hl : news.length = m * size) (hr : Rd w B A news) (h1 : ∀ u ∈ news, u.oneCell' = true)
    (h63 : n + m ≤ maxLen) (hbytes : (n + m) * bytes ≤ 140737488355328) (hbase : base ≤ w.heap.size) :
    ∃ v' w', (Builtin.append_ #[t, t] ty #[v, .slice A m c]).run P w = .ok v' w' ∧ ownsT w' base e size v' (n + m) (xs ++ news) ∧ w.grownBy w' v.ownBlock ∧
      (v'.ownBlock = v.ownBlock ∨ v'.ownBlock = some w.heap.size) ∧ (∃ A' c', v' = .slice A' (n + m) c') ∧ (v' = .slice none 0 0 → v = .slice none 0 0 ∧ m = 0) := by
  have form : ∀ {W : World} {v' : Value} {k : Nat} {ys : List Value}, ownsT W base e size v' k ys → ∃ A' c', v' = .slice A' k c' := by
    intro W v' k ys h
    rcases h.2 with ⟨rfl, rfl⟩ | ⟨g, cap, cur, fz, rfl, _⟩
    · exact ⟨none, 0, rfl⟩
    · exact ⟨_, cap, rfl⟩
  by_cases hm : m = 0
  · subst hm
    have hn : news = [] := List.eq_nil_of_length_eq_zero (by simpa using hl)
    subst hn
    rcases A with _ | ad
    · refine ⟨v, w, ?_, by simpa using hown, World.grownBy.refl w _, .inl rfl, by simpa using form hown, fun h => ⟨h, rfl⟩⟩
      rcases hown.2 with ⟨rfl, rfl⟩ | ⟨g, cap, cur, fz, rfl, _, _, _, hnc, _⟩
      · simp [Builtin.append_, run_underlying ht, sizeOf, typeInfo, hi, Builtin.lenOf, Builtin.firstCells]
      · simp [Builtin.append_, run_underlying ht, sizeOf, typeInfo, hi, Builtin.lenOf, Builtin.firstCells, hnc, storeCells]
    · obtain ⟨v', w', hrun, h2, h3, h4, h5⟩ := run_append_ownT (P := P) w base t ty e i z size bytes ht hi hz hsize hby hzs hsz v n xs hown ad 0 c [] hl (fun j u hu => by simp at hu) h1 h63 hbytes hbase
      exact ⟨v', w', hrun, h2, h3, h5, form h2, fun h => h4.1 h⟩
  · have hne : news ≠ [] := by
      rintro rfl
      have := Nat.mul_pos (Nat.pos_of_ne_zero hm) hsz
      simp at hl
      omega
    obtain ⟨b, o, rfl, hb, hc⟩ := hr hne
    obtain ⟨v', w', hrun, h2, h3, h4, h5⟩ := run_append_ownT (P := P) w base t ty e i z size bytes ht hi hz hsize hby hzs hsz v n xs hown ⟨b, o, none⟩ m c news hl (fun j u hu => by rw [Addr.add_lit]; exact hc j u hu) h1 h63 hbytes hbase
    exact ⟨v', w', hrun, h2, h3, h5, form h2, fun h => h4.1 h⟩
end

/-! ### 'w' is w, but for an append in place onto the owned slice v, which has become v'' -/
structure AppT (base : Nat) (e : TypeId) (size : Nat) (w : World) (v : Value) (w' : World) (v' : Value) (n : Nat) (xs : List Value) : Prop where
  own : ownsT w' base e size v' n xs
  grown : w.grownBy w' v.ownBlock
  block : v'.ownBlock = v.ownBlock ∨ ∃ k, v'.ownBlock = some k ∧ w.heap.size ≤ k
section
variable {base : Nat} {e : TypeId} {size n n' : Nat} {w w' w2 : World} {v v' v2 : Value} {xs ys : List Value}
theorem AppT.refl (h : ownsT w base e size v n xs) : AppT base e size w v w v n xs := ⟨h, World.grownBy.refl w _, .inl rfl⟩
theorem AppT.trans (h : AppT base e size w v w' v' n xs) (k : AppT base e size w' v' w2 v2 n' ys) : AppT base e size w v w2 v2 n' ys := by
  refine ⟨k.own, grown_row h.grown k.grown h.block, ?_⟩
  rcases k.block with hb | ⟨g, hg, hl⟩
  · rcases h.block with hb' | ⟨g, hg, hl⟩
    · exact .inl (hb.trans hb')
    · exact .inr ⟨g, hb.trans hg, hl⟩
  · exact .inr ⟨g, hg, Nat.le_trans h.grown.size hl⟩
theorem AppT.drewN (h : AppT base e size w v w' v' n xs) (k : Nat) : AppT base e size w v (w'.drewN k) v' n xs :=
  ⟨h.own, ⟨h.grown.os, h.grown.tape, h.grown.output, h.grown.size, h.grown.block⟩, h.block⟩
theorem AppT.drew (h : AppT base e size w v w' v' n xs) : AppT base e size w v w'.drew v' n xs :=
  ⟨h.own, ⟨h.grown.os, h.grown.tape, h.grown.output, h.grown.size, h.grown.block⟩, h.block⟩
theorem AppT.alloc (h : AppT base e size w v w' v' n xs) (o : Obj) : AppT base e size w v (w'.alloc o) v' n xs :=
  ⟨h.own.alloc o, ⟨h.grown.os, h.grown.tape, h.grown.output, by have := h.grown.size; simp; omega, fun i hi hne => (Below.heap_alloc w' o i (Nat.lt_of_lt_of_le hi h.grown.size)).trans (h.grown.block i hi hne)⟩, h.block⟩
theorem AppT.step (h : AppT base e size w v w' v' n xs) {w1 : World} (ho : ownsT w1 base e size v2 n' ys) (hg : w'.grownBy w1 v'.ownBlock) (hb : v2.ownBlock = v'.ownBlock ∨ v2.ownBlock = some w'.heap.size) : AppT base e size w v w1 v2 n' ys :=
  h.trans ⟨ho, hg, hb.imp id fun h => ⟨_, h, Nat.le_refl _⟩⟩
theorem AppT.below {B : Nat} (h : AppT base e size w v w' v' n xs) (hB : B ≤ w.heap.size) (hv : ∀ k, v.ownBlock = some k → B ≤ k) : Below B w w' :=
  ⟨h.grown.os, h.grown.tape, h.grown.output, h.grown.size, fun k hk => h.grown.block k (by omega) (fun e => by have := hv k e.symm; omega)⟩
theorem AppT.later (h : AppT base e size w v w' v' n xs) (hb : Below w'.heap.size w' w2) : AppT base e size w v w2 v' n xs :=
  ⟨h.own.kept (row := none) ⟨hb.os, hb.tape, hb.output, hb.size, fun k hk _ => hb.block k hk⟩ (by cases v'.ownBlock <;> simp),
    ⟨hb.os.trans h.grown.os, hb.tape.trans h.grown.tape, hb.output.trans h.grown.output, Nat.le_trans h.grown.size hb.size, fun k hk hne => (hb.block k (Nat.lt_of_lt_of_le hk h.grown.size)).trans (h.grown.block k hk hne)⟩, h.block⟩
theorem AppT.heap (h : AppT base e size w v w' v' n xs) : w.heap.size ≤ w'.heap.size := h.grown.size
end
theorem ownsT.rd {w : World} {base n c size : Nat} {A : Option Addr} {e : TypeId} {xs : List Value} (h : ownsT w base e size (.slice A n c) n xs) : Rd w w.heap.size A xs := fun hn => by
  rcases h.2 with ⟨h1, h2⟩ | ⟨g, cap, cur, fz, h1, hb, hg, _⟩
  · exact absurd (List.eq_nil_of_length_eq_zero (by rw [h.1, h2, Nat.zero_mul])) hn
  · injection h1 with h1 _ _
    subst h1
    refine ⟨g, 0, rfl, (Array.getElem?_eq_some_iff.1 hg).1, fun j u hu => ?_⟩
    have := h.cells (g := g) rfl j u hu
    rwa [Addr.add_lit] at this
def RetAppT (base : Nat) (e : TypeId) (size : Nat) (w : World) (v : Value) (n : Nat) (xs : List Value) (P : Option Addr → Prop) (en : Ending) (w' : World) : Prop :=
  ∃ A' c', en = .returned (.slice A' n c') ∧ AppT base e size w v w' (.slice A' n c') n xs ∧ P A'

theorem slice_none_ne {n c m k : Nat} {a : Addr} : Value.slice none n c ≠ .slice (some a) m k := fun h => by cases h
/-- append of bytes onto such a row. -/
theorem wpList_appbT (w : World) {ops : Array Oper} {rest : List Oper} {o : Oper} {a : Act} {Q : Exit → Act → World → Prop} (hgd : o.guard = none) (s x : Operand)
    (ho : o.op = .call { callee := .builtin .append, args := #[s, x], argTypes := #[27, 27] })
    (base : Nat) (v : Value) (n : Nat) (xs : List Int) (hs : a.eval s = v) (hown : ownsT w base 5 1 v n (bv xs))
    (B : Nat) (A : Option Addr) (m c : Nat) (news : List Int) (hx : a.eval x = .slice A m c) (hl : news.length = m) (hr : Rb w B A news)
    (hbytes : n + m ≤ 140737488355328) (hbase : base ≤ w.heap.size)
    (h : ∀ A' c' w', AppT base 5 1 w v w' (.slice A' (n + m) c') (n + m) (bv (xs ++ news)) → (A' = none → v = .slice none 0 0 ∧ m = 0) → wpList Try.prog ops Q rest (a.put o.dst (.slice A' (n + m) c')) w') : wpList Try.prog ops Q (o :: rest) a w := by
  obtain ⟨i0, hi0, hz0, hz1, hz2⟩ := info_parts u8info
  obtain ⟨v', w', hrun, h2, h3, h4, ⟨A', c', rfl⟩, h6⟩ := run_appT2 (P := Try.prog) w base _ o.type 5 i0 _ 1 1 Try.underlying27 hi0 hz0 hz1 hz2 rfl (by omega) v n (bv xs) hown B A m c (bv news) (by rw [bv_length]; omega) hr (bv_one news) (by simp only [maxLen]; omega) (by omega) hbase
  refine wpList_plain hgd fun _ hK => ?_
  unfold Oper.wp execOp
  simp only [ho, resolve, invoke, builtin, Sem.run_bind, Sem.run_pure, Result.andThen_ok, List.map_toArray, List.map_cons, List.map_nil, hs, hx, hrun]
  rw [← bv_append] at h2
  refine hK _ _ (h A' c' w' ((AppT.refl hown).step h2 h3 h4) (fun hA => h6 ?_))
  subst hA
  rcases h2.2 with ⟨e1, _⟩ | ⟨g, cap, cur, fz, e1, _⟩
  · exact e1
  · exact absurd e1 slice_none_ne

/-- What '[]byte(s)' lays is such a row. -/
theorem conv_own (w : World) (s : ByteArray) (hs : s.size ≤ maxLen) : ∃ c W, (convert 9 27 (.string s)).run Try.prog w = .ok (.slice (some ⟨w.heap.size, 0, none⟩) s.size c) W ∧ ownsT W w.heap.size 5 1 (.slice (some ⟨w.heap.size, 0, none⟩) s.size c) s.size (bv (nums s)) ∧ Below w.heap.size w W ∧ W.heap.size = w.heap.size + 1 := by
  refine ⟨_, _, run_bytes_of_string w _ _ _ s Try.underlying9 Try.underlying27 Try.underlying5, ?_, ?_, by simp⟩
  · have hge := grownCap_ge w s.size 0 5
    have hcm := grownCap_le_maxLen w s.size 0 5 hs
    have hsz : (bytesRow s (grownCap w s.size 0 5)).size = grownCap w s.size 0 5 := by
      rw [bytesRow, Array.size_append, Array.size_map, Array.size_replicate]
      have : s.data.size = s.size := rfl
      omega
    refine ⟨by rw [bv_length, nums_len, Nat.mul_one], .inr ⟨_, _, _, _, rfl, Nat.le_refl _, heap_alloc_new w.drew _, .inl (Nat.le_refl _), hge, hcm, by rw [hsz, Nat.mul_one], ?_⟩⟩
    rw [bytesRow, Array.toList_append, Nat.mul_one, List.take_left' (by rw [Array.toList_map, List.length_map]; rfl)]
    simp [bv, nums]
  · exact ((below_drewN (Below.refl _ w) 1).alloc (Nat.le_refl _) _)
end Go.Proofs.Ytlamebbolioljaa
