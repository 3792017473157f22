/- Spans: Parse: what it computes, its memory. -/
import Derived.Laws.ResultCell
import Derived.Test.YtlamebbolioljaaSpR
import Derived.Test.YtlamebbolioljaaSpL
namespace Go.Proofs.Ytlamebbolioljaa
open Go.RowKit

/-- What Parse has read ahead of the tags: the span without them, their number, the reader. -/
def prHead (zs : List Int) : Sp × Nat × RS :=
  let a := rEight zs ⟨0, 0, false⟩
  let b := rEight zs a.2
  let c := rEight zs b.2
  let d := rEight zs c.2
  let e := rText zs d.2
  let f := rText zs e.2
  let k := rOne 255 zs f.2
  let st := rShort 4611686018427387903 zs k.2
  let ln := rShort 4611686018427387903 zs st.2
  let fl := rOne 1 zs ln.2
  let n := rShort 16 zs fl.2
  (⟨a.1, b.1, c.1, d.1, e.1, f.1, k.1, st.1, ln.1, fl.1 == 1, []⟩, n.1, n.2)
def prTags (zs : List Int) : Nat → List Tg → RS → List Tg × RS
  | 0, acc, s => (acc, s)
  | n + 1, acc, s => prTags zs n (acc ++ [⟨(rText zs s).1, (rText zs (rText zs s).2).1⟩]) (rText zs (rText zs s).2).2
/-- The span that was read, and the reader behind it. -/
def prAll (zs : List Int) : Sp × RS := ({ (prHead zs).1 with tags := (prTags zs (prHead zs).2.1 [] (prHead zs).2.2).1 }, (prTags zs (prHead zs).2.1 [] (prHead zs).2.2).2)
def prErrOf (zs : List Int) (s : Sp) (r : RS) : Nat :=
  if r.e ≠ 0 then r.e else if r.bad = true then 4 else if r.p < zs.length then 4 else spChk s
/-- What Parse tells. -/
def prErr (zs : List Int) : Nat := prErrOf zs (prAll zs).1 (prAll zs).2
def zeroSp : Sp := ⟨0, 0, 0, 0, ⟨#[]⟩, ⟨#[]⟩, 0, 0, 0, false, []⟩
/-- A zero span's cells. -/
abbrev zspC : Array Value := #[.int .u64 0, .int .u64 0, .int .u64 0, .int .u64 0, .string ⟨#[]⟩, .string ⟨#[]⟩, .int .i64 0, .int .i64 0, .int .i64 0, .bool false, .slice none 0 0]
def prSp (zs : List Int) : Sp := if prErr zs = 0 then (prAll zs).1 else zeroSp

theorem tginfo : (Try.prog.info? 97).map (fun i => (i.zero, i.size, i.bytes)) = some (some (.agg #[.string ⟨#[]⟩, .string ⟨#[]⟩]), 2, 32) := by kernel_rfl
/-- append of tags. -/
theorem wp_appT (w : World) {o : Oper} {a : Act} {K : Act → World → Prop} {Q : Exit → Act → World → Prop} (s x : Operand)
    (ho : o.op = .call { callee := .builtin .append, args := #[s, x], argTypes := #[41, 41] })
    (base : Nat) (v : Value) (n : Nat) (l : List Tg) (hs : a.eval s = v) (hown : w.ownsRow base 97 2 v n (tgs l))
    (B : Nat) (A : Option Addr) (m c : Nat) (news : List Tg) (hx : a.eval x = .slice A m c) (hl : news.length = m) (hr : RbT w B A news)
    (hbytes : n + m ≤ 4398046511104) (hbase : base ≤ w.heap.size)
    (h : ∀ A' c' w', App base 97 2 w v w' (.slice A' (n + m) c') (n + m) (tgs (l ++ news)) → (A' = none → v = .slice none 0 0 ∧ m = 0) → K (a.put o.dst (.slice A' (n + m) c')) w') :
    o.wp Try.prog a w K Q := by
  obtain ⟨i0, hi0, hz0, hz1, hz2⟩ := info_parts tginfo
  refine wp_app w s x _ ho base 97 i0 _ 2 32 Try.underlying41 hi0 hz0 hz1 hz2 rfl (by omega) v n (tgs l) hs hown B A m c (tgs news) hx (by rw [tgs_length, hl]) hr (tgs_one news) (by simp only [maxLen]; omega) (by omega) hbase ?_
  intro A' c' w' h1 h2 h3 h4
  rw [← tgs_append] at h1
  exact h A' c' w' ((App.refl hown).step h1 h2 h3) h4
theorem step_appT {w : World} {ops : Array Oper} {o : Oper} {a : Act} {K : Act → World → Prop} {Q : Exit → Act → World → Prop} {E : Prop} (hgd : o.guard = none) (s x : Operand)
    (ho : o.op = .call { callee := .builtin .append, args := #[s, x], argTypes := #[41, 41] })
    (base : Nat) (v : Value) (n : Nat) (l : List Tg) (hs : a.eval s = v) (hown : w.ownsRow base 97 2 v n (tgs l))
    (B : Nat) (A : Option Addr) (m c : Nat) (news : List Tg) (hx : a.eval x = .slice A m c) (hl : news.length = m) (hr : RbT w B A news)
    (hbytes : n + m ≤ 4398046511104) (hbase : base ≤ w.heap.size)
    (h : ∀ A' c' w', App base 97 2 w v w' (.slice A' (n + m) c') (n + m) (tgs (l ++ news)) → (A' = none → v = .slice none 0 0 ∧ m = 0) → K (a.put o.dst (.slice A' (n + m) c')) w') :
    if Region.wanted o (yielded ops a.tmps) = true then Oper.wp Try.prog o a w K Q else E := by
  have hw : Region.wanted o (yielded ops a.tmps) = true := by simp [Region.wanted, hgd]
  rw [if_pos hw]
  exact wp_appT w s x ho base v n l hs hown B A m c news hx hl hr hbytes hbase h

/-- 'append', shut: what a walk through a drawn region is told of it by an equation. -/
def appK (ts : Array TypeId) (ty : TypeId) (vs : Array Value) : Sem Value := Builtin.append_ ts ty vs
theorem appK_shut (ts : Array TypeId) (ty : TypeId) (vs : Array Value) : Builtin.append_ ts ty vs = appK ts ty vs := rfl
theorem run_appT (w : World) (base : Nat) (v : Value) (n : Nat) (l : List Tg) (hown : w.ownsRow base 97 2 v n (tgs l))
    (B : Nat) (A : Option Addr) (m c : Nat) (news : List Tg) (hl : news.length = m) (hr : RbT w B A news) (hbytes : n + m ≤ 4398046511104) (hbase : base ≤ w.heap.size) :
    ∃ A' c' w', (appK #[41, 41] 41 #[v, .slice A m c]).run Try.prog w = .ok (.slice A' (n + m) c') w' ∧ App base 97 2 w v w' (.slice A' (n + m) c') (n + m) (tgs (l ++ news)) := by
  obtain ⟨i0, hi0, hz0, hz1, hz2⟩ := info_parts tginfo
  obtain ⟨v', w', hrun, h2, h3, h4, ⟨A', c', rfl⟩, h6⟩ := run_app (P := Try.prog) w base 41 41 97 i0 _ 2 32 Try.underlying41 hi0 hz0 hz1 hz2 rfl (by omega) v n (tgs l) hown B A m c (tgs news) (by rw [tgs_length, hl]) hr (tgs_one news) (by simp only [maxLen]; omega) (by omega) hbase
  rw [← tgs_append] at h2
  exact ⟨A', c', w', hrun, (App.refl hown).step h2 h3 h4⟩

theorem results_cell_row_tmp {P : Program} {fn : Func} {p u : Tmp} {ty : TypeId} (h : fn.results = #[.cell p ty, .tmp u]) (tmps : Array Value) (w : World) (g : Nat) (t : TypeId) (cs : Array Value) (d : TypeDesc)
    (hp : tmps.getD p undef = .pointer (some ⟨g, 0, none⟩)) (hg : Bk w g t cs)
    (hu : P.underlying ty = some d) (hd : (match d with | .struct _ | .array _ _ => true | _ => false) = true) (hi : (P.info? ty).map (·.size) = some cs.size) :
    (results fn tmps).run P w = .ok (.tuple #[.agg cs, tmps.getD u undef]) w := by
  rw [results_cell_tmp h, hp]
  simp [asAddr, Result.andThen, run_loadVar_row w g t ty cs (0, 0) d hg hu hd hi]
theorem spC_one (s : Sp) (A : Option Addr) (n c : Nat) : (spC s A n c).all (·.oneCell') = true := by simp [Value.oneCell']
theorem zspC_one : zspC.all (·.oneCell') = true := by simp [Value.oneCell']
/-- Parse's memory: the reader, the span it fills, the result, the tags. -/
structure PS (w0 W : World) (h g sb rb lo : Nat) (A : Option Addr) (c : Nat) (zs : List Int) (st : RS) (cells : Array Value) (At : Option Addr) (nt ct : Nat) (acc : List Tg) : Prop where
  rd : SRd W h g A c zs st
  sp : Bk W sb 43 cells
  rs : Bk W rb 43 zspC
  own : W.ownsRow lo 97 2 (.slice At nt ct) nt (tgs acc)
  len : acc.length = nt
  bel : Below w0.heap.size w0 W
  hlo : lo ≤ W.heap.size
  hg : w0.heap.size ≤ g ∧ g < lo
  hh : w0.heap.size ≤ h ∧ h < lo
  hs : w0.heap.size ≤ sb ∧ sb < lo
  hr : w0.heap.size ≤ rb ∧ rb < lo
  ne : sb ≠ g ∧ sb ≠ h ∧ rb ≠ g ∧ rb ≠ h ∧ rb ≠ sb
  hA : ∀ a, A = some a → a.block < lo ∧ a.block ≠ sb
section
variable {w0 W W' : World} {h g sb rb lo : Nat} {A : Option Addr} {c : Nat} {zs : List Int} {st st' : RS} {cells : Array Value} {At : Option Addr} {nt ct : Nat} {acc : List Tg}
theorem PS.call (p : PS w0 W h g sb rb lo A c zs st cells At nt ct acc) (hR : SRd W' h g A c zs st') (ho : Only2 W W' g h) : PS w0 W' h g sb rb lo A c zs st' cells At nt ct acc := by
  have hg1 := p.hg
  have hh1 := p.hh
  have hown : ∀ k, (Value.slice At nt ct).ownBlock = some k → k ≠ g ∧ k ≠ h := fun k hk => by
    have := (p.own.lt k hk).1
    omega
  refine ⟨hR, ho.bk p.sp p.ne.1 p.ne.2.1, ho.bk p.rs p.ne.2.2.1 p.ne.2.2.2.1, ?_, p.len, ?_, Nat.le_trans p.hlo ho.size, p.hg, p.hh, p.hs, p.hr, p.ne, p.hA⟩
  · refine ⟨p.own.1, p.own.2.imp id ?_⟩
    rintro ⟨k, cap, cur, hv, hk, r⟩
    obtain ⟨k1, k2⟩ := hown k (by rw [hv]; rfl)
    have hlt := (p.own.lt k (by rw [hv]; rfl)).2
    exact ⟨k, cap, cur, hv, hk, (ho.block k hlt k1 k2).trans r.1, r.2⟩
  · exact p.bel.trans (ho.below p.bel.size hg1.1 hh1.1)
theorem PS.store (p : PS w0 W h g sb rb lo A c zs st cells At nt ct acc) (o : Nat) (u : Value) : PS w0 (W.setCell ⟨sb, o, none⟩ u) h g sb rb lo A c zs st (cells.setIfInBounds o u) At nt ct acc := by
  have hst : W.grownBy (W.setCell ⟨sb, o, none⟩ u) (some sb) := only_set (World.grownBy.refl _ _) _ _
  have e0 := p.hs
  refine ⟨p.rd.keep hst (fun e => p.ne.1 (by injection e)) (fun e => p.ne.2.1 (by injection e)) (fun a ha e => (p.hA a ha).2 (by injection e with e; exact e.symm)), p.sp.set o u, p.rs.far (fun e => p.ne.2.2.2.2 e) u,
    p.own.kept hst (.inr fun e => by have := (p.own.lt sb e).1; omega), p.len, ?_, by simpa [World.setCell] using p.hlo, p.hg, p.hh, p.hs, p.hr, p.ne, p.hA⟩
  exact p.bel.trans ⟨hst.os, hst.tape, hst.output, hst.size, fun q hq => hst.block q (by have := p.bel.size; omega) (fun e => by injection e with e; omega)⟩
theorem PS.below (p : PS w0 W h g sb rb lo A c zs st cells At nt ct acc) (hb : Below W.heap.size W W') : PS w0 W' h g sb rb lo A c zs st cells At nt ct acc :=
  p.call (p.rd.below hb) ⟨hb.os, hb.tape, hb.output, hb.size, fun i hi _ _ => hb.block i hi⟩
theorem PS.facts (p : PS w0 W h g sb rb lo A c zs st cells At nt ct acc) (i : Nat) : W.cell? ⟨sb, i, none⟩ = cells[i]? ∧ W.frozen? ⟨sb, i, none⟩ = false := ⟨p.sp.cell i, p.sp.frozen i⟩
/-- A tag more. -/
theorem PS.app {At' : Option Addr} {ct' : Nat} {t : Tg} (p : PS w0 W h g sb rb lo A c zs st cells At nt ct acc) (k : App lo 97 2 W (.slice At nt ct) W' (.slice At' (nt + 1) ct') (nt + 1) (tgs (acc ++ [t]))) :
    PS w0 W' h g sb rb lo A c zs st cells At' (nt + 1) ct' (acc ++ [t]) := by
  have hown : ∀ q, (Value.slice At nt ct).ownBlock = some q → lo ≤ q := fun q hq => (p.own.lt q hq).1
  have hg := k.grown
  have e0 := p.hg
  have e1 := p.hh
  have e2 := p.hs
  have e3 := p.hr
  refine ⟨p.rd.keep hg (fun e => by have := hown g e; omega) (fun e => by have := hown h e; omega) (fun a ha e => by have := hown _ e; have := (p.hA a ha).1; omega), p.sp.grown hg (fun e => by have := hown sb e.symm; omega), p.rs.grown hg (fun e => by have := hown rb e.symm; omega), k.own, by simp [p.len], ?_, Nat.le_trans p.hlo hg.size, p.hg, p.hh, p.hs, p.hr, p.ne, p.hA⟩
  exact p.bel.trans (k.below (B := w0.heap.size) (by have := p.bel.size; omega) (fun q hq => by have := hown q hq; omega))
theorem PS.drew (p : PS w0 W h g sb rb lo A c zs st cells At nt ct acc) : PS w0 W.drew h g sb rb lo A c zs st cells At nt ct acc := p.below (below_drewN (Below.refl _ W) 1)
end

/-! The reader's methods, by what they give. -/
section
variable {A : Option Addr} {c h g : Nat} {zs : List Int} {s s' : RS}
theorem spEight' {v : Nat} (w : World) (x : SRd w h g A c zs s) (he : rEight zs s = (v, s')) : Calls Try.prog 78 #[.pointer (some ⟨h, 0, none⟩)] w (RPost (.int .u64 v) w h g A c zs s') := by
  have := spEight w x
  rwa [he] at this
theorem spRText' {v : ByteArray} (w : World) (x : SRd w h g A c zs s) (he : rText zs s = (v, s')) : Calls Try.prog 79 #[.pointer (some ⟨h, 0, none⟩)] w (RPost (.string v) w h g A c zs s') := by
  have := spRText w x
  rwa [he] at this
theorem spOne' {most v : Int} (w : World) (x : SRd w h g A c zs s) (he : rOne most zs s = (v, s')) : Calls Try.prog 80 #[.pointer (some ⟨h, 0, none⟩), .int .u8 most] w (RPost (.int .u8 v) w h g A c zs s') := by
  have := spOne most w x
  rwa [he] at this
theorem spShort' {most v : Nat} {m : Int} (hme : m = most) (hm : most ≤ 4611686018427387903) (w : World) (x : SRd w h g A c zs s) (he : rShort most zs s = (v, s')) : Calls Try.prog 81 #[.pointer (some ⟨h, 0, none⟩), .int .u64 m] w (RPost (.int .i64 v) w h g A c zs s') := by
  subst hme
  have := spShort most hm w x
  rwa [he] at this
end
theorem rShort_le {most : Nat} {zs : List Int} {s : RS} : (rShort most zs s).1 ≤ most := by
  unfold rShort
  split
  · simp
  · split
    · simp
    · simp only; omega
theorem rOne_rng {most : Int} {zs : List Int} (hz : Byt zs) (s : RS) : 0 ≤ (rOne most zs s).1 ∧ (rOne most zs s).1 ≤ 255 := by
  unfold rOne
  split
  · simp
  · have hb := rdFix_byt hz s.p s.e 1
    split
    · rename_i x hx
      rw [hx] at hb
      exact hb x (by simp)
    · simp
end Go.Proofs.Ytlamebbolioljaa
