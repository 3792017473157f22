/- Parse: what it computes; writes in blocks of their own. -/
import Derived.Laws.ResultCell
import Derived.Test.YtpjdlcdkldomlaaBatU
namespace Go.Proofs.Ytpjdlcdkldomlaa
open Go.RowKit

/-- The rounds of Parse: k rounds to come, the writes so far, the reader's place and error; false: a kind that is none. -/
def rdLoop (zs : List Int) : Nat → List Wr → Nat → Nat → Bool × List Wr × Nat × Nat
  | 0, acc, p, e => (true, acc, p, e)
  | k + 1, acc, p, e =>
    if e ≠ 0 then (true, acc, p, e)
    else if (rdFix zs p 0 1).2.2 ≠ 0 then (true, acc, (rdFix zs p 0 1).2.1, (rdFix zs p 0 1).2.2)
    else if (rdFix zs p 0 1).1.getD 0 0 ≠ 1 ∧ (rdFix zs p 0 1).1.getD 0 0 ≠ 2 then (false, acc, (rdFix zs p 0 1).2.1, 0)
    else if (rdFix zs p 0 1).1.getD 0 0 = 1 then
      rdLoop zs k (acc ++ [⟨1, (rdPiece zs (rdFix zs p 0 1).2.1 0).1, (rdPiece zs (rdPiece zs (rdFix zs p 0 1).2.1 0).2.1 (rdPiece zs (rdFix zs p 0 1).2.1 0).2.2).1⟩])
        (rdPiece zs (rdPiece zs (rdFix zs p 0 1).2.1 0).2.1 (rdPiece zs (rdFix zs p 0 1).2.1 0).2.2).2.1 (rdPiece zs (rdPiece zs (rdFix zs p 0 1).2.1 0).2.1 (rdPiece zs (rdFix zs p 0 1).2.1 0).2.2).2.2
    else rdLoop zs k (acc ++ [⟨2, (rdPiece zs (rdFix zs p 0 1).2.1 0).1, []⟩]) (rdPiece zs (rdFix zs p 0 1).2.1 0).2.1 (rdPiece zs (rdFix zs p 0 1).2.1 0).2.2
/-- What Parse tells: the number, the writes, the error. -/
def parErr (zs : List Int) (seq : Nat) (R : Bool × List Wr × Nat × Nat) : Nat :=
  if R.1 = false then 4 else if R.2.2.2 ≠ 0 then R.2.2.2 else if R.2.2.1 < zs.length then 4 else batChk seq R.2.1
def parSeq (zs : List Int) : Nat := (rdNum zs 0 0).1
def parNum (zs : List Int) : Nat × Nat × Nat := rdNum zs (rdNum zs 0 0).2.1 (rdNum zs 0 0).2.2
def parLoop (zs : List Int) : Bool × List Wr × Nat × Nat := rdLoop zs (parNum zs).1 [] (parNum zs).2.1 (parNum zs).2.2
def parOf (zs : List Int) : Nat := parErr zs (parSeq zs) (parLoop zs)

/-- The three cells of a write whose bytes lie below B, from block lo on, and not in block r. -/
def WrAt (w : World) (lo B : Nat) (r : Option Nat) (hs : List Value) (i : Nat) (x : Wr) : Prop :=
  ∃ A1 c1 A2 c2, hs[i * 3]? = some (Value.int .i64 x.kind) ∧ hs[i * 3 + 1]? = some (Value.slice A1 x.key.length c1) ∧ hs[i * 3 + 2]? = some (Value.slice A2 x.val.length c2) ∧
    x.key.length ≤ c1 ∧ Rb w B A1 x.key ∧ x.val.length ≤ c2 ∧ Rb w B A2 x.val ∧ (x.key ≠ [] → ∀ a, A1 = some a → r ≠ some a.block) ∧ (x.val ≠ [] → ∀ a, A2 = some a → r ≠ some a.block) ∧ (x.key ≠ [] → ∀ a, A1 = some a → lo ≤ a.block) ∧ (x.val ≠ [] → ∀ a, A2 = some a → lo ≤ a.block) ∧ (A1 = none → c1 = 0) ∧ (A2 = none → c2 = 0)
theorem WrAt.beside {w w' : World} {lo : Nat} {r row : Option Nat} {hs : List Value} {i : Nat} {x : Wr} (h : WrAt w lo w.heap.size r hs i x) (hg : w.grownBy w' row) (hr : ∀ k, row = some k → k < lo) : WrAt w' lo w'.heap.size r hs i x := by
  obtain ⟨A1, c1, A2, c2, h1, h2, h3, h4, h5, h6, h7, h8, h9, h10, h11, h12⟩ := h
  exact ⟨A1, c1, A2, c2, h1, h2, h3, h4, h5.beside hg (fun hz a ha e => by have := hr _ e; have := h10 hz a ha; omega), h6, h7.beside hg (fun hz a ha e => by have := hr _ e; have := h11 hz a ha; omega), h8, h9, h10, h11, h12⟩
theorem WrAt.app {base lo : Nat} {e : TypeId} {size n i : Nat} {w w' : World} {v v' : Value} {xs hs more : List Value} {x : Wr} (h : WrAt w lo w.heap.size v.ownBlock hs i x) (k : App base e size w v w' v' n xs) : WrAt w' lo w'.heap.size v'.ownBlock (hs ++ more) i x := by
  obtain ⟨A1, c1, A2, c2, h1, h2, h3, h4, h5, h6, h7, h8, h9, h10, h11, h12⟩ := h
  have lt : ∀ {j : Nat} {u : Value}, hs[j]? = some u → (hs ++ more)[j]? = some u := fun {j u} hj => by
    rw [List.getElem?_append_left (List.getElem?_eq_some_iff.1 hj).1]; exact hj
  exact ⟨A1, c1, A2, c2, lt h1, lt h2, lt h3, h4, h5.beside k.grown h8, h6, h7.beside k.grown h9, far_app k h5 h8, far_app k h7 h9, h10, h11, h12⟩
theorem wrinfo : (Try.prog.info? 31).map (fun i => (i.zero, i.size, i.bytes)) = some (some (.agg #[.int .i64 0, .slice none 0 0, .slice none 0 0]), 3, 56) := by kernel_rfl
/-- append of one write. -/
theorem wpList_appW (w : World) {ops : Array Oper} {rest : List Oper} {o : Oper} {a : Act} {Q : Exit → Act → World → Prop} (hgd : o.guard = none) (s x : Operand)
    (ho : o.op = .call { callee := .builtin .append, args := #[s, x], argTypes := #[34, 34] })
    (base : Nat) (v : Value) (n : Nat) (xs : List Value) (hs : a.eval s = v) (hown : w.ownsRow base 31 3 v n xs)
    (B : Nat) (A : Option Addr) (c : Nat) (news : List Value) (hx : a.eval x = .slice A 1 c) (hl : news.length = 3) (hr : Rd w B A news) (h1 : ∀ u ∈ news, u.oneCell' = true)
    (hbytes : n ≤ 1048576) (hbase : base ≤ w.heap.size)
    (h : ∀ A' c' w', App base 31 3 w v w' (.slice A' (n + 1) c') (n + 1) (xs ++ news) → wpList Try.prog ops Q rest (a.put o.dst (.slice A' (n + 1) c')) w') :
    wpList Try.prog ops Q (o :: rest) a w := by
  obtain ⟨i0, hi0, hz0, hz1, hz2⟩ := info_parts wrinfo
  refine wpList_app w hgd s x _ ho base 31 i0 _ 3 56 Try.underlying34 hi0 hz0 hz1 hz2 rfl (by omega) v n xs hs hown B A 1 c news hx (by rw [hl]) hr h1 (by simp only [maxLen]; omega) (by omega) hbase ?_
  intro A' c' w' h1 h2 h3 h4
  exact h A' c' w' ((App.refl hown).step h1 h2 h3)

theorem results_cell_row_tmp {P : Program} {fn : Func} {p u : Tmp} {ty : TypeId} (h : fn.results = #[.cell p ty, .tmp u]) (tmps : Array Value) (w : World) (g : Nat) (t : TypeId) (cs : Array Value) (d : TypeDesc)
    (hp : tmps.getD p undef = .pointer (some ⟨g, 0, none⟩)) (hg : Bk w g t cs)
    (hu : P.underlying ty = some d) (hd : (match d with | .struct _ | .array _ _ => true | _ => false) = true) (hi : (P.info? ty).map (·.size) = some cs.size) :
    (results fn tmps).run P w = .ok (.tuple #[.agg cs, tmps.getD u undef]) w := by
  rw [results_cell_tmp h, hp]
  simp [asAddr, Result.andThen, run_loadVar_row w g t ty cs (0, 0) d hg hu hd hi]
/-- Parse's memory ahead of a round. -/
structure PM (w0 wr : World) (g gb gr lo : Nat) (A : Option Addr) (c : Nat) (zs : List Int) (p e seq : Nat) (Aw : Option Addr) (j cw : Nat) (acc : List Wr) (hs : List Value) : Prop where
  rdr : Rdr wr g A c zs p e
  bat : Bk wr gb 36 #[.int .u64 seq, .slice Aw j cw]
  res : Bk wr gr 36 #[.int .u64 0, .slice none 0 0]
  own : wr.ownsRow lo 31 3 (.slice Aw j cw) j hs
  ats : ∀ (i : Nat) (x : Wr), acc[i]? = some x → WrAt wr lo wr.heap.size (Value.slice Aw j cw).ownBlock hs i x
  len : acc.length = j
  byt : ∀ x ∈ acc, BytW x
  bel : Below w0.heap.size w0 wr
  le : e ≤ 100
  hlo : lo ≤ wr.heap.size
  hg : w0.heap.size ≤ g ∧ g < lo
  hgb : w0.heap.size ≤ gb ∧ gb < lo
  hgr : w0.heap.size ≤ gr ∧ gr < lo
  ne : gb ≠ g ∧ gr ≠ g ∧ gb ≠ gr
section
variable {w0 wr w' : World} {g gb gr lo : Nat} {A : Option Addr} {c : Nat} {zs : List Int} {p e seq : Nat} {Aw : Option Addr} {j cw : Nat} {acc : List Wr} {hs : List Value}
theorem PM.rd (h : PM w0 wr g gb gr lo A c zs p e seq Aw j cw acc hs) (hg : wr.grownBy w' (some g)) {p' e' : Nat} (hr : Rdr w' g A c zs p' e') (he : e' ≤ 100) : PM w0 w' g gb gr lo A c zs p' e' seq Aw j cw acc hs :=
  ⟨hr, h.bat.grown hg (fun e => h.ne.1 (by injection e)), h.res.grown hg (fun e => h.ne.2.1 (by injection e)), h.own.kept hg (.inr fun e => by have := (h.own.lt g e).1; have := h.hg; omega),
   fun i x hx => (h.ats i x hx).beside hg (fun k hk => by injection hk with hk; have := h.hg; omega), h.len, h.byt,
   h.bel.trans ⟨hg.os, hg.tape, hg.output, hg.size, fun k hk => hg.block k (by have := h.bel.size; omega) (fun e => by injection e with e; have := h.hg; omega)⟩, he, Nat.le_trans h.hlo hg.size, h.hg, h.hgb, h.hgr, h.ne⟩
theorem PM.rbw (h : PM w0 wr g gb gr lo A c zs p e seq Aw j cw acc hs) : RbW wr wr.heap.size Aw acc :=
  ⟨hs, Rd.of_own h.own, fun i x hx => by
    obtain ⟨A1, c1, A2, c2, h1, h2, h3, h4, h5, h6, h7, h8, h9, h10, h11, h12⟩ := h.ats i x hx
    exact ⟨A1, c1, A2, c2, h1, h2, h3, h4, h5, h6, h7, h12⟩⟩
theorem PM.under (h : PM w0 wr g gb gr lo A c zs p e seq Aw j cw acc hs) (hb : Below wr.heap.size wr w') : PM w0 w' g gb gr lo A c zs p e seq Aw j cw acc hs :=
  h.rd ⟨hb.os, hb.tape, hb.output, hb.size, fun k hk _ => hb.block k hk⟩ (h.rdr.below hb) h.le
theorem PM.rbwSet (h : PM w0 wr g gb gr lo A c zs p e seq Aw j cw acc hs) (u v : Value) : RbW ((wr.setCell ⟨gr, 0, none⟩ u).setCell ⟨gr, 1, none⟩ v) ((wr.setCell ⟨gr, 0, none⟩ u).setCell ⟨gr, 1, none⟩ v).heap.size Aw acc := by
  have hst : wr.grownBy ((wr.setCell ⟨gr, 0, none⟩ u).setCell ⟨gr, 1, none⟩ v) (some gr) := only_set (only_set (World.grownBy.refl _ _) _ _) _ _
  have e0 := h.hgr
  exact ⟨hs, Rd.of_own (h.own.kept hst (.inr fun e => by have := (h.own.lt gr e).1; omega)), fun i x hx => by
    obtain ⟨A1, c1, A2, c2, h1, h2, h3, h4, h5, h6, h7, h8, h9, h10, h11, h12⟩ := (h.ats i x hx).beside hst (fun k hk => by injection hk with hk; omega)
    exact ⟨A1, c1, A2, c2, h1, h2, h3, h4, h5, h6, h7, h12⟩⟩
theorem PM.push {A1 A2 : Option Addr} {c1 c2 : Nat} {x : Wr} (h : PM w0 wr g gb gr lo A c zs p e seq Aw j cw acc hs) {Aw' : Option Addr} {cw' : Nat}
    (k : App lo 31 3 wr (.slice Aw j cw) w' (.slice Aw' (j + 1) cw') (j + 1) (hs ++ [.int .i64 x.kind, .slice A1 x.key.length c1, .slice A2 x.val.length c2]))
    (hl : hs.length = j * 3) (hA : ∀ a, A = some a → a.block < lo ∧ a.block ≠ gb)
    (r1 : Rb wr wr.heap.size A1 x.key) (l1 : x.key.length ≤ c1) (r2 : Rb wr wr.heap.size A2 x.val) (l2 : x.val.length ≤ c2) (b1 : ∀ a, A1 = some a → lo ≤ a.block ∧ (Value.slice Aw j cw).ownBlock ≠ some a.block) (b2 : ∀ a, A2 = some a → lo ≤ a.block ∧ (Value.slice Aw j cw).ownBlock ≠ some a.block)
    (z1 : A1 = none → c1 = 0) (z2 : A2 = none → c2 = 0) (hb : BytW x) :
    PM w0 (w'.setCell ⟨gb, 1, none⟩ (.slice Aw' (j + 1) cw')) g gb gr lo A c zs p e seq Aw' (j + 1) cw' (acc ++ [x]) (hs ++ [.int .i64 x.kind, .slice A1 x.key.length c1, .slice A2 x.val.length c2]) := by
  have hown : ∀ q, (Value.slice Aw j cw).ownBlock = some q → lo ≤ q := fun q hq => (h.own.lt q hq).1
  have hg := k.grown
  have e0 := h.hg
  have e1 := h.hgb
  have e2 := h.hgr
  have hgb : (w'.setCell ⟨gb, 1, none⟩ (.slice Aw' (j + 1) cw')).heap.size = w'.heap.size := by simp [World.setCell]
  have hst : w'.grownBy (w'.setCell ⟨gb, 1, none⟩ (.slice Aw' (j + 1) cw')) (some gb) := only_set (World.grownBy.refl _ _) _ _
  have at1 : ∀ (i : Nat) (y : Wr), (acc ++ [x])[i]? = some y → WrAt w' lo w'.heap.size (Value.slice Aw' (j + 1) cw').ownBlock (hs ++ [.int .i64 x.kind, .slice A1 x.key.length c1, .slice A2 x.val.length c2]) i y := by
    intro i y hy
    by_cases hi : i < acc.length
    · rw [List.getElem?_append_left hi] at hy
      exact (h.ats i y hy).app k
    · have hij : i = j := by
        have := (List.getElem?_eq_some_iff.1 hy).1
        simp at this
        have := h.len
        omega
      subst hij
      rw [List.getElem?_append_right (by omega)] at hy
      have hy2 : y = x := by
        have : i - acc.length = 0 := by have := h.len; omega
        rw [this] at hy
        simpa using hy.symm
      subst hy2
      exact ⟨A1, c1, A2, c2, by rw [List.getElem?_append_right (by omega)]; simp [hl], by rw [List.getElem?_append_right (by omega)]; simp [hl], by rw [List.getElem?_append_right (by omega)]; simp [hl],
        l1, r1.beside hg (fun _ a ha => (b1 a ha).2), l2, r2.beside hg (fun _ a ha => (b2 a ha).2), far_app k r1 (fun _ a ha => (b1 a ha).2), far_app k r2 (fun _ a ha => (b2 a ha).2), fun _ a ha => (b1 a ha).1, fun _ a ha => (b2 a ha).1, z1, z2⟩
  refine ⟨?_, ?_, ?_, k.own.kept hst ?_, fun i y hy => (at1 i y hy).beside hst (fun q hq => by injection hq with hq; omega), by simp [h.len], ?_, ?_, h.le, ?_, h.hg, h.hgb, h.hgr, h.ne⟩
  · exact (h.rdr.keep hg (fun e => by have := hown g e; omega) (fun a ha e => by have := hown _ e; have := (hA a ha).1; omega)).keep hst (fun e => h.ne.1 (by injection e)) (fun a ha e => (hA a ha).2 (by injection e with e; exact e.symm))
  · exact (h.bat.grown hg (fun e => by have := hown gb e.symm; omega)).set 1 _
  · exact (h.res.grown hg (fun e => by have := hown gr e.symm; omega)).far (fun e => h.ne.2.2 e.symm) _
  · refine .inr fun e => ?_
    have := (k.own.lt gb e).1
    omega
  · intro y hy
    rcases List.mem_append.1 hy with hy | hy
    · exact h.byt y hy
    · simp at hy; subst hy; exact hb
  · exact h.bel.trans ((k.below (B := w0.heap.size) (by have := h.bel.size; omega) (fun q hq => by have := hown q hq; omega)).trans ⟨hst.os, hst.tape, hst.output, hst.size, fun q hq => hst.block q (by have := h.bel.size; have := hg.size; omega) (fun e => by injection e with e; omega)⟩)
  · rw [hgb]; exact Nat.le_trans h.hlo hg.size
end
end Go.Proofs.Ytpjdlcdkldomlaa
