/- Spans: the reader that keeps the first error. -/
import Derived.Test.YtlamebbolioljaaWireRO
import Derived.Test.YtlamebbolioljaaSpM
namespace Go.Proofs.Ytlamebbolioljaa
open Go.RowKit

/-- What a reader's state is: the place, the error, whether something else was bad. -/
structure RS where
  p : Nat
  e : Nat
  bad : Bool
def RS.stop (s : RS) : Bool := s.bad || decide (s.e ≠ 0)
def rEight (zs : List Int) (s : RS) : Nat × RS := if s.stop = true then (0, s) else (if (rdFix zs s.p s.e 8).1.length < 8 then 0 else ordVal (rdFix zs s.p s.e 8).1, ⟨(rdFix zs s.p s.e 8).2.1, (rdFix zs s.p s.e 8).2.2, s.bad⟩)
def rText (zs : List Int) (s : RS) : ByteArray × RS := if s.stop = true then (⟨#[]⟩, s) else (strOfNums (rdPiece zs s.p s.e).1, ⟨(rdPiece zs s.p s.e).2.1, (rdPiece zs s.p s.e).2.2, s.bad⟩)
def rOne (most : Int) (zs : List Int) (s : RS) : Int × RS := if s.stop = true then (0, s) else
  match (rdFix zs s.p s.e 1).1 with
  | [x] => (x, ⟨(rdFix zs s.p s.e 1).2.1, (rdFix zs s.p s.e 1).2.2, decide (most < x)⟩)
  | _ => (0, ⟨(rdFix zs s.p s.e 1).2.1, (rdFix zs s.p s.e 1).2.2, s.bad⟩)
def rShort (most : Nat) (zs : List Int) (s : RS) : Nat × RS := if s.stop = true then (0, s) else
  if most < (rdNum zs s.p s.e).1 then (0, ⟨(rdNum zs s.p s.e).2.1, (rdNum zs s.p s.e).2.2, true⟩) else ((rdNum zs s.p s.e).1, ⟨(rdNum zs s.p s.e).2.1, (rdNum zs s.p s.e).2.2, s.bad⟩)

/-- w' is w but for what lies in g and h. -/
structure Only2 (w w' : World) (g h : Nat) : Prop where
  os : w'.os = w.os
  tape : w'.tape = w.tape
  output : w'.output = w.output
  size : w.heap.size ≤ w'.heap.size
  block : ∀ i, i < w.heap.size → i ≠ g → i ≠ h → w'.heap[i]? = w.heap[i]?
theorem Only2.refl (w : World) (g h : Nat) : Only2 w w g h := ⟨rfl, rfl, rfl, Nat.le_refl _, fun _ _ _ _ => rfl⟩
theorem Only2.trans {a b c : World} {g h : Nat} (x : Only2 a b g h) (y : Only2 b c g h) : Only2 a c g h :=
  ⟨y.os.trans x.os, y.tape.trans x.tape, y.output.trans x.output, Nat.le_trans x.size y.size, fun i hi h1 h2 => (y.block i (Nat.lt_of_lt_of_le hi x.size) h1 h2).trans (x.block i hi h1 h2)⟩
theorem Only2.of {w w' : World} {g : Nat} (x : w.grownBy w' (some g)) (h : Nat) : Only2 w w' g h := ⟨x.os, x.tape, x.output, x.size, fun i hi h1 _ => x.block i hi (fun e => h1 (by injection e))⟩
theorem Only2.set {w w' : World} {g h : Nat} (x : Only2 w w' g h) (o : Nat) (u : Value) : Only2 w (w'.setCell ⟨h, o, none⟩ u) g h :=
  ⟨x.os, x.tape, x.output, by simpa [World.setCell] using x.size, fun i hi h1 h2 => (Below.heap_setCell w' _ u i (by rintro rfl; exact h2 rfl)).trans (x.block i hi h1 h2)⟩
theorem Only2.drewN {w w' : World} {g h : Nat} (x : Only2 w w' g h) (n : Nat) : Only2 w (w'.drewN n) g h := ⟨x.os, x.tape, x.output, x.size, x.block⟩
theorem Only2.bk {w w' : World} {g h k : Nat} {t : TypeId} {cs : Array Value} (x : Only2 w w' g h) (b : Bk w k t cs) (h1 : k ≠ g) (h2 : k ≠ h) : Bk w' k t cs := (x.block k b.lt h1 h2).trans b
theorem Only2.below {w w' : World} {g h B : Nat} (x : Only2 w w' g h) (hB : B ≤ w.heap.size) (h1 : B ≤ g) (h2 : B ≤ h) : Below B w w' := ⟨x.os, x.tape, x.output, x.size, fun i hi => x.block i (by omega) (by omega) (by omega)⟩

/-- The reader at block h: wire's reader at g, and whether something was bad. -/
structure SRd (w : World) (h g : Nat) (A : Option Addr) (c : Nat) (zs : List Int) (s : RS) : Prop where
  blk : Bk w h 124 #[.pointer (some ⟨g, 0, none⟩), .bool s.bad]
  rdr : Rdr w g A c zs s.p s.e
  ne : h ≠ g
  far : ∀ a, A = some a → a.block ≠ h
  err : s.e ≤ 100
theorem SRd.drewN {w : World} {h g c : Nat} {A : Option Addr} {zs : List Int} {s : RS} (x : SRd w h g A c zs s) (n : Nat) : SRd (w.drewN n) h g A c zs s := ⟨x.blk.drewN n, x.rdr.drewN n, x.ne, x.far, x.err⟩
/-- What is done elsewhere leaves the reader. -/
theorem SRd.keep {w w' : World} {h g c : Nat} {A : Option Addr} {zs : List Int} {s : RS} (x : SRd w h g A c zs s) {row : Option Nat} (hg : w.grownBy w' row) (h1 : row ≠ some g) (h2 : row ≠ some h) (h3 : ∀ a, A = some a → row ≠ some a.block) : SRd w' h g A c zs s :=
  ⟨(hg.block h x.blk.lt (fun e => h2 e.symm)).trans x.blk, x.rdr.keep hg h1 h3, x.ne, x.far, x.err⟩
theorem SRd.below {w w' : World} {h g c : Nat} {A : Option Addr} {zs : List Int} {s : RS} (x : SRd w h g A c zs s) (hg : Below w.heap.size w w') : SRd w' h g A c zs s :=
  x.keep (row := none) ⟨hg.os, hg.tape, hg.output, hg.size, fun k hk _ => hg.block k hk⟩ (by simp) (by simp) (by simp)
/-- wire's reader has moved on. -/
theorem SRd.move {w w' : World} {h g c p e : Nat} {A : Option Addr} {zs : List Int} {s : RS} (x : SRd w h g A c zs s) (hr : Rdr w' g A c zs p e) (hg : w.grownBy w' (some g)) (he : e ≤ 100) : SRd w' h g A c zs ⟨p, e, s.bad⟩ :=
  ⟨(hg.block h x.blk.lt (fun e => x.ne (by injection e))).trans x.blk, hr, x.ne, x.far, he⟩
theorem SRd.setBad {w : World} {h g c : Nat} {A : Option Addr} {zs : List Int} {s : RS} (x : SRd w h g A c zs s) (b : Bool) : SRd (w.setCell ⟨h, 1, none⟩ (.bool b)) h g A c zs ⟨s.p, s.e, b⟩ := by
  have hg : w.grownBy (w.setCell ⟨h, 1, none⟩ (.bool b)) (some h) := only_set (World.grownBy.refl w _) 1 _
  exact ⟨x.blk.set 1 _, x.rdr.keep hg (fun e => x.ne (by injection e)) (fun a ha e => x.far a ha (by injection e with e; exact e.symm)), x.ne, x.far, x.err⟩

theorem rdFix_err (zs : List Int) (p e n : Nat) (he : e ≤ 100) : (rdFix zs p e n).2.2 ≤ 100 := by
  unfold rdFix; split
  · exact he
  · split <;> simp
theorem rdFix_byt {zs : List Int} (hz : Byt zs) (p e n : Nat) : Byt (rdFix zs p e n).1 := by
  unfold rdFix; split
  · intro x hx; simp at hx
  · split
    · intro x hx; simp at hx
    · exact (hz.drop p).take n
theorem rdPiece_byt {zs : List Int} (hz : Byt zs) (p e : Nat) : Byt (rdPiece zs p e).1 := by
  unfold rdPiece; split
  · intro x hx; simp at hx
  · split
    · intro x hx; simp at hx
    · split
      · intro x hx; simp at hx
      · split
        · intro x hx; simp at hx
        · exact (hz.drop _).take _
theorem rdPiece_err {zs : List Int} (hz : Byt zs) (p e : Nat) (he : e ≤ 100) : (rdPiece zs p e).2.2 ≤ 100 := by
  have := shortOf_le (hz.drop p)
  unfold rdPiece; split
  · exact he
  · split
    · simp only; omega
    · split
      · simp
      · split <;> simp
theorem rdNum_err {zs : List Int} (hz : Byt zs) (p e : Nat) (he : e ≤ 100) : (rdNum zs p e).2.2 ≤ 100 := by
  have := shortOf_le (hz.drop p)
  unfold rdNum; split
  · exact he
  · simp only; omega

theorem spWrong {A : Option Addr} {c h g : Nat} {zs : List Int} {s : RS} (w : World) (x : SRd w h g A c zs s) :
    Calls Try.prog 93 #[.pointer (some ⟨h, 0, none⟩)] w fun e w' => e = .returned (.bool s.stop) ∧ w' = w := by
  have k0 : w.cell? ⟨h, 0, none⟩ = some (.pointer (some ⟨g, 0, none⟩)) := x.blk.cell 0
  have k1 : w.cell? ⟨h, 1, none⟩ = some (.bool s.bad) := x.blk.cell 1
  obtain ⟨p, e, bad⟩ := s
  cases bad with
  | true =>
    have hs : RS.stop ⟨p, e, true⟩ = true := rfl
    rw [hs]
    go_enter Try.func93, Try.ntmps93
    go_wp2
    go_ret
    exact ⟨rfl, rfl⟩
  | false =>
    have hE := Lib.hid (rdrErr w x.rdr)
    have hs : RS.stop ⟨p, e, false⟩ = ((e : Int) != 0) := by
      rw [Bool.eq_iff_iff]
      simp [RS.stop]
    rw [hs]
    clear hs
    go_enter Try.func93, Try.ntmps93
    go_wp2_with (go_at_call 82; refine hE.out.mono ?_; rintro en w' ⟨rfl, hw⟩; rw [hw]; clear hw w')
    go_ret
    exact ⟨rfl, rfl⟩

def RPost (v : Value) (w : World) (h g : Nat) (A : Option Addr) (c : Nat) (zs : List Int) (s : RS) (e : Ending) (w' : World) : Prop :=
  e = .returned v ∧ SRd w' h g A c zs s ∧ Only2 w w' g h
theorem stop_false {s : RS} (h : s.stop = false) : s.e = 0 ∧ s.bad = false := by
  unfold RS.stop at h
  simp at h
  exact ⟨h.2, h.1⟩
theorem rdFix_len (zs : List Int) (p e n : Nat) : (rdFix zs p e n).1 = [] ∨ (rdFix zs p e n).1.length = n := by
  unfold rdFix
  split
  · exact .inl rfl
  · split
    · exact .inl rfl
    · right
      simp only [List.length_take, List.length_drop]
      omega

set_option maxHeartbeats 400000 in
theorem spEight {A : Option Addr} {c h g : Nat} {zs : List Int} {s : RS} (w : World) (x : SRd w h g A c zs s) :
    Calls Try.prog 78 #[.pointer (some ⟨h, 0, none⟩)] w (RPost (.int .u64 (rEight zs s).1) w h g A c zs (rEight zs s).2) := by
  have k0 : w.cell? ⟨h, 0, none⟩ = some (.pointer (some ⟨g, 0, none⟩)) := x.blk.cell 0
  have hW := spWrong w x
  cases hs : s.stop with
  | true =>
    have hr : rEight zs s = (0, s) := by rw [rEight, if_pos hs]
    rw [hr]
    rw [hs] at hW
    have HW := Lib.hid hW
    clear hW hs
    go_enter Try.func78, Try.ntmps78
    go_wp2_with (go_at_call 93; refine HW.out.mono ?_; rintro en w' ⟨rfl, hw⟩; rw [hw]; clear hw w')
    go_ret
    exact ⟨rfl, x, Only2.refl _ _ _⟩
  | false =>
    rw [hs] at hW
    have HW := Lib.hid hW
    have hF := Lib.hid (rdrFixed (n := 8) w x.rdr x.err (by omega))
    have hE := rdFix_err zs s.p s.e 8 x.err
    have hL := rdFix_len zs s.p s.e 8
    have hY := rdFix_byt x.rdr.byt s.p s.e 8
    have hr : rEight zs s = (if (rdFix zs s.p s.e 8).1.length < 8 then 0 else ordVal (rdFix zs s.p s.e 8).1, ⟨(rdFix zs s.p s.e 8).2.1, (rdFix zs s.p s.e 8).2.2, s.bad⟩) := by rw [rEight, if_neg (by rw [hs]; simp)]
    rw [hr]
    obtain ⟨out, p', e', ho⟩ : ∃ out p' e', rdFix zs s.p s.e 8 = (out, p', e') := ⟨_, _, _, rfl⟩
    rw [ho] at hF hE hL hY ⊢
    simp only at hF hE hL hY ⊢
    clear hW hs hr ho
    rcases hL with h0 | h0
    · subst h0
      have e0 : (if ([] : List Int).length < 8 then 0 else ordVal []) = 0 := rfl
      rw [e0]
      go_enter Try.func78, Try.ntmps78
      go_wp2_with (go_at_call 93; refine HW.out.mono ?_; rintro en w' ⟨rfl, hw⟩; rw [hw]; clear hw w')
      refine hF.out.mono ?_
      rintro en w3 ⟨A', c', rfl, hR, hg, hrd, hcp, hlo, hnil⟩
      go_wp2_with fail
      refine (wireReadOrdered0 _ (by simp)).mono ?_
      rintro en w4 ⟨rfl, rfl⟩
      go_wp2
      go_ret
      exact ⟨rfl, x.move hR hg hE, Only2.of hg h⟩
    · have e0 : (if out.length < 8 then 0 else ordVal out) = ordVal out := by rw [if_neg (by omega)]
      rw [e0]
      have H0 := Lib.hid h0
      clear h0 e0
      go_enter Try.func78, Try.ntmps78
      go_wp2_with (go_at_call 93; refine HW.out.mono ?_; rintro en w' ⟨rfl, hw⟩; rw [hw]; clear hw w')
      refine hF.out.mono ?_
      rintro en w3 ⟨A', c', rfl, hR, hg, hrd, hcp, hlo, hnil⟩
      have hro := wireReadOrdered1 _ hrd hY (by rw [H0.out]; simp [maxLen]) (by have := H0.out; omega) rfl hcp
      rw [List.take_of_length_le (by have := H0.out; omega)] at hro
      have HRO := Lib.hid hro
      clear hro
      go_wp2_with fail
      refine HRO.out.mono ?_
      rintro en w4 ⟨rfl, rfl⟩
      go_wp2
      go_ret
      exact ⟨rfl, x.move hR hg hE, Only2.of hg h⟩

set_option maxHeartbeats 400000 in
theorem spRText {A : Option Addr} {c h g : Nat} {zs : List Int} {s : RS} (w : World) (x : SRd w h g A c zs s) :
    Calls Try.prog 79 #[.pointer (some ⟨h, 0, none⟩)] w (RPost (.string (rText zs s).1) w h g A c zs (rText zs s).2) := by
  have k0 : w.cell? ⟨h, 0, none⟩ = some (.pointer (some ⟨g, 0, none⟩)) := x.blk.cell 0
  have hW := spWrong w x
  cases hs : s.stop with
  | true =>
    have hr : rText zs s = (⟨#[]⟩, s) := by rw [rText, if_pos hs]
    rw [hr]
    rw [hs] at hW
    have HW := Lib.hid hW
    clear hW hs
    go_enter Try.func79, Try.ntmps79
    go_wp2_with (go_at_call 93; refine HW.out.mono ?_; rintro en w' ⟨rfl, hw⟩; rw [hw]; clear hw w')
    go_ret
    exact ⟨rfl, x, Only2.refl _ _ _⟩
  | false =>
    rw [hs] at hW
    have HW := Lib.hid hW
    have hF := Lib.hid (rdrPiece w x.rdr x.err)
    have hE := rdPiece_err x.rdr.byt s.p s.e x.err
    have hY := rdPiece_byt x.rdr.byt s.p s.e
    have hr : rText zs s = (strOfNums (rdPiece zs s.p s.e).1, ⟨(rdPiece zs s.p s.e).2.1, (rdPiece zs s.p s.e).2.2, s.bad⟩) := by rw [rText, if_neg (by rw [hs]; simp)]
    rw [hr]
    obtain ⟨out, p', e', ho⟩ : ∃ out p' e', rdPiece zs s.p s.e = (out, p', e') := ⟨_, _, _, rfl⟩
    rw [ho] at hF hE hY ⊢
    simp only at hF hE hY ⊢
    clear hW hs hr ho
    go_enter Try.func79, Try.ntmps79
    go_wp2_with (go_at_call 93; refine HW.out.mono ?_; rintro en w' ⟨rfl, hw⟩; rw [hw]; clear hw w')
    refine hF.out.mono ?_
    rintro en w3 ⟨A', c', rfl, hR, hg, hrd, hcp, hlo, hnil⟩
    have hconv := Rb.str (P := Try.prog) hrd Try.underlying27 Try.underlying5 Try.underlying9 c'
    go_wp2
    go_ret
    exact ⟨rfl, x.move hR hg hE, Only2.of hg h⟩

set_option maxHeartbeats 400000 in
theorem spOne {A : Option Addr} {c h g : Nat} {zs : List Int} {s : RS} (most : Int) (w : World) (x : SRd w h g A c zs s) :
    Calls Try.prog 80 #[.pointer (some ⟨h, 0, none⟩), .int .u8 most] w (RPost (.int .u8 (rOne most zs s).1) w h g A c zs (rOne most zs s).2) := by
  have k0 : w.cell? ⟨h, 0, none⟩ = some (.pointer (some ⟨g, 0, none⟩)) := x.blk.cell 0
  have hW := spWrong w x
  cases hs : s.stop with
  | true =>
    have hr : rOne most zs s = (0, s) := by rw [rOne, if_pos hs]
    rw [hr]
    rw [hs] at hW
    have HW := Lib.hid hW
    clear hW hs
    go_enter Try.func80, Try.ntmps80
    go_wp2_with (go_at_call 93; refine HW.out.mono ?_; rintro en w' ⟨rfl, hw⟩; rw [hw]; clear hw w')
    go_ret
    exact ⟨rfl, x, Only2.refl _ _ _⟩
  | false =>
    rw [hs] at hW
    have HW := Lib.hid hW
    have hF := Lib.hid (rdrFixed (n := 1) w x.rdr x.err (by omega))
    have hE := rdFix_err zs s.p s.e 1 x.err
    have hL := rdFix_len zs s.p s.e 1
    have hr : rOne most zs s = match (rdFix zs s.p s.e 1).1 with
        | [x] => (x, ⟨(rdFix zs s.p s.e 1).2.1, (rdFix zs s.p s.e 1).2.2, decide (most < x)⟩)
        | _ => (0, ⟨(rdFix zs s.p s.e 1).2.1, (rdFix zs s.p s.e 1).2.2, s.bad⟩) := by rw [rOne, if_neg (by rw [hs]; simp)]
    rw [hr]
    obtain ⟨out, p', e', ho⟩ : ∃ out p' e', rdFix zs s.p s.e 1 = (out, p', e') := ⟨_, _, _, rfl⟩
    rw [ho] at hF hE hL ⊢
    simp only at hF hE hL ⊢
    clear hW hs hr ho
    rcases hL with h0 | h0
    · subst h0
      go_enter Try.func80, Try.ntmps80
      go_wp2_with (go_at_call 93; refine HW.out.mono ?_; rintro en w' ⟨rfl, hw⟩; rw [hw]; clear hw w')
      refine hF.out.mono ?_
      rintro en w3 ⟨A', c', rfl, hR, hg, hrd, hcp, hlo, hnil⟩
      go_wp2
      go_ret
      exact ⟨rfl, x.move hR hg hE, Only2.of hg h⟩
    · obtain ⟨y, rfl⟩ : ∃ y, out = [y] := List.length_eq_one_iff.1 h0
      clear h0
      go_enter Try.func80, Try.ntmps80
      go_wp2_with (go_at_call 93; refine HW.out.mono ?_; rintro en w' ⟨rfl, hw⟩; rw [hw]; clear hw w')
      refine hF.out.mono ?_
      rintro en w3 ⟨A', c', rfl, hR, hg, hrd, hcp, hlo, hnil⟩
      obtain ⟨b, o, y', hy', rfl, hb, hcell⟩ := hrd.get (k := 0) (by simp)
      simp at hy'
      subst hy'
      rw [Nat.add_zero] at hcell
      have x3 := x.move hR hg hE
      have k1 : w3.cell? ⟨h, 1, none⟩ = some (.bool s.bad) := x3.blk.cell 1
      have f1 : w3.frozen? ⟨h, 1, none⟩ = false := x3.blk.frozen 1
      have k0' : w3.cell? ⟨h, 0, none⟩ = some (.pointer (some ⟨g, 0, none⟩)) := x3.blk.cell 0
      have hbh : b ≠ h := fun e => by
        have := hlo _ rfl
        have hh := x.blk.lt
        simp at this
        omega
      have hcell' : (w3.setCell ⟨h, 1, none⟩ (.bool (decide (most < y)))).cell? ⟨b, o, none⟩ = some (.int .u8 y) := (World.cell?_setCell_other w3 _ ⟨b, o, none⟩ _ (fun e => hbh (congrArg Addr.block e).symm)).trans hcell
      go_wp2
      go_ret
      exact ⟨rfl, x3.setBad _, (Only2.of hg h).set 1 _⟩

set_option maxHeartbeats 400000 in
theorem spShort {A : Option Addr} {c h g : Nat} {zs : List Int} {s : RS} (most : Nat) (hm : most ≤ 4611686018427387903) (w : World) (x : SRd w h g A c zs s) :
    Calls Try.prog 81 #[.pointer (some ⟨h, 0, none⟩), .int .u64 most] w (RPost (.int .i64 (rShort most zs s).1) w h g A c zs (rShort most zs s).2) := by
  have k0 : w.cell? ⟨h, 0, none⟩ = some (.pointer (some ⟨g, 0, none⟩)) := x.blk.cell 0
  have hW := spWrong w x
  cases hs : s.stop with
  | true =>
    have hr : rShort most zs s = (0, s) := by rw [rShort, if_pos hs]
    rw [hr]
    rw [hs] at hW
    have HW := Lib.hid hW
    clear hW hs
    go_enter Try.func81, Try.ntmps81
    go_wp2_with (go_at_call 93; refine HW.out.mono ?_; rintro en w' ⟨rfl, hw⟩; rw [hw]; clear hw w')
    go_ret
    exact ⟨rfl, x, Only2.refl _ _ _⟩
  | false =>
    rw [hs] at hW
    have HW := Lib.hid hW
    have hE := rdNum_err x.rdr.byt s.p s.e x.err
    have hr : rShort most zs s = if most < (rdNum zs s.p s.e).1 then (0, ⟨(rdNum zs s.p s.e).2.1, (rdNum zs s.p s.e).2.2, true⟩) else ((rdNum zs s.p s.e).1, ⟨(rdNum zs s.p s.e).2.1, (rdNum zs s.p s.e).2.2, s.bad⟩) := by rw [rShort, if_neg (by rw [hs]; simp)]
    rw [hr]
    obtain ⟨v, p', e', ho⟩ : ∃ v p' e', rdNum zs s.p s.e = (v, p', e') := ⟨_, _, _, rfl⟩
    have hF2 : Calls Try.prog 96 #[.pointer (some ⟨g, 0, none⟩)] w (fun en w' => en = .returned (.int .u64 v) ∧ Rdr w' g A c zs p' e' ∧ w.grownBy w' (some g)) := by
      have := rdrNumber w x.rdr x.err
      unfold NumPost at this
      rw [ho] at this
      exact this
    rw [ho] at hE ⊢
    simp only at hE ⊢
    have HF := Lib.hid hF2
    clear hW hs hr ho hF2
    by_cases hv : most < v
    · rw [if_pos hv]
      have d1 : (most : Int) < (v : Int) := by omega
      go_enter Try.func81, Try.ntmps81
      go_wp2_with (go_at_call 93; refine HW.out.mono ?_; rintro en w' ⟨rfl, hw⟩; rw [hw]; clear hw w')
      refine HF.out.mono ?_
      rintro en w3 ⟨rfl, hR, hg⟩
      have x3 := x.move hR hg hE
      have k1 : w3.cell? ⟨h, 1, none⟩ = some (.bool s.bad) := x3.blk.cell 1
      have f1 : w3.frozen? ⟨h, 1, none⟩ = false := x3.blk.frozen 1
      go_wp2
      go_ret
      exact ⟨rfl, x3.setBad _, (Only2.of hg h).set 1 _⟩
    · rw [if_neg hv]
      have d1 : decide ((most : Int) < (v : Int)) = false := by simp; omega
      have d2 : (v : Int) ≤ 4611686018427387903 := by omega
      go_enter Try.func81, Try.ntmps81
      go_wp2_with (go_at_call 93; refine HW.out.mono ?_; rintro en w' ⟨rfl, hw⟩; rw [hw]; clear hw w')
      refine HF.out.mono ?_
      rintro en w3 ⟨rfl, hR, hg⟩
      have x3 := x.move hR hg hE
      go_wp2
      go_ret
      exact ⟨rfl, x3, Only2.of hg h⟩
end Go.Proofs.Ytlamebbolioljaa
