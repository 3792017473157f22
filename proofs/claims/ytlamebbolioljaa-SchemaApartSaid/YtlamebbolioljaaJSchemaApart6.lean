/- Texts of the proof of SchemaApartSaid, joined: SpR SpP SpQ SpX AdR Row AdL Bnd. -/
import Derived.Test.YtlamebbolioljaaJSchemaApart3
import Derived.Test.YtlamebbolioljaaJSchemaApart2
import Derived.Laws.ResultCell
import Derived.Test.YtlamebbolioljaaJSchemaApart5
import Derived.Deep.RegionWith
import Derived.Test.YtlamebbolioljaaJSchemaApart1
/- Spans: the reader that keeps the first error. -/
namespace Go.Proofs.Ytlamebbolioljaa
open Go.RowKit

/-- What a reader's state is: the place, the error, whether something else was bad. -/
structure RS where
  p : Nat
  e : Nat
  bad : Bool
def RS.stop (s : RS) : Bool := s.bad || decide (s.e ≠ 0)
def rEight (zs : List Int) (s : RS) : Nat × RS := if s.stop = true then (0, s) else (if (rdFix zs s.p s.e 8).1.length < 8 then 0 else ordVal (rdFix zs s.p s.e 8).1, ⟨(rdFix zs s.p s.e 8).2.1, (rdFix zs s.p s.e 8).2.2, s.bad⟩)
def rText (zs : List Int) (s : RS) : ByteArray × RS := if s.stop = true then (⟨#[]⟩, s) else (strOfNums (rdPiece zs s.p s.e).1, ⟨(rdPiece zs s.p s.e).2.1, (rdPiece zs s.p s.e).2.2, s.bad⟩)
def rOne (most : Int) (zs : List Int) (s : RS) : Int × RS := if s.stop = true then (0, s) else
  match (rdFix zs s.p s.e 1).1 with
  | [x] => (x, ⟨(rdFix zs s.p s.e 1).2.1, (rdFix zs s.p s.e 1).2.2, decide (most < x)⟩)
  | _ => (0, ⟨(rdFix zs s.p s.e 1).2.1, (rdFix zs s.p s.e 1).2.2, s.bad⟩)
def rShort (most : Nat) (zs : List Int) (s : RS) : Nat × RS := if s.stop = true then (0, s) else
  if most < (rdNum zs s.p s.e).1 then (0, ⟨(rdNum zs s.p s.e).2.1, (rdNum zs s.p s.e).2.2, true⟩) else ((rdNum zs s.p s.e).1, ⟨(rdNum zs s.p s.e).2.1, (rdNum zs s.p s.e).2.2, s.bad⟩)

/-- w' is w but for what lies in g and h. -/
structure Only2 (w w' : World) (g h : Nat) : Prop where
  os : w'.os = w.os
  tape : w'.tape = w.tape
  output : w'.output = w.output
  size : w.heap.size ≤ w'.heap.size
  block : ∀ i, i < w.heap.size → i ≠ g → i ≠ h → w'.heap[i]? = w.heap[i]?
theorem Only2.refl (w : World) (g h : Nat) : Only2 w w g h := ⟨rfl, rfl, rfl, Nat.le_refl _, fun _ _ _ _ => rfl⟩
theorem Only2.trans {a b c : World} {g h : Nat} (x : Only2 a b g h) (y : Only2 b c g h) : Only2 a c g h :=
  ⟨y.os.trans x.os, y.tape.trans x.tape, y.output.trans x.output, Nat.le_trans x.size y.size, fun i hi h1 h2 => (y.block i (Nat.lt_of_lt_of_le hi x.size) h1 h2).trans (x.block i hi h1 h2)⟩
theorem Only2.of {w w' : World} {g : Nat} (x : w.grownBy w' (some g)) (h : Nat) : Only2 w w' g h := ⟨x.os, x.tape, x.output, x.size, fun i hi h1 _ => x.block i hi (fun e => h1 (by injection e))⟩
theorem Only2.set {w w' : World} {g h : Nat} (x : Only2 w w' g h) (o : Nat) (u : Value) : Only2 w (w'.setCell ⟨h, o, none⟩ u) g h :=
  ⟨x.os, x.tape, x.output, by simpa [World.setCell] using x.size, fun i hi h1 h2 => (Below.heap_setCell w' _ u i (by rintro rfl; exact h2 rfl)).trans (x.block i hi h1 h2)⟩
theorem Only2.drewN {w w' : World} {g h : Nat} (x : Only2 w w' g h) (n : Nat) : Only2 w (w'.drewN n) g h := ⟨x.os, x.tape, x.output, x.size, x.block⟩
theorem Only2.bk {w w' : World} {g h k : Nat} {t : TypeId} {cs : Array Value} (x : Only2 w w' g h) (b : Bk w k t cs) (h1 : k ≠ g) (h2 : k ≠ h) : Bk w' k t cs := (x.block k b.lt h1 h2).trans b
theorem Only2.below {w w' : World} {g h B : Nat} (x : Only2 w w' g h) (hB : B ≤ w.heap.size) (h1 : B ≤ g) (h2 : B ≤ h) : Below B w w' := ⟨x.os, x.tape, x.output, x.size, fun i hi => x.block i (by omega) (by omega) (by omega)⟩

/-- The reader at block h: wire's reader at g, and whether something was bad. -/
structure SRd (w : World) (h g : Nat) (A : Option Addr) (c : Nat) (zs : List Int) (s : RS) : Prop where
  blk : Bk w h 124 #[.pointer (some ⟨g, 0, none⟩), .bool s.bad]
  rdr : Rdr w g A c zs s.p s.e
  ne : h ≠ g
  far : ∀ a, A = some a → a.block ≠ h
  err : s.e ≤ 100
theorem SRd.drewN {w : World} {h g c : Nat} {A : Option Addr} {zs : List Int} {s : RS} (x : SRd w h g A c zs s) (n : Nat) : SRd (w.drewN n) h g A c zs s := ⟨x.blk.drewN n, x.rdr.drewN n, x.ne, x.far, x.err⟩
/-- What is done elsewhere leaves the reader. -/
theorem SRd.keep {w w' : World} {h g c : Nat} {A : Option Addr} {zs : List Int} {s : RS} (x : SRd w h g A c zs s) {row : Option Nat} (hg : w.grownBy w' row) (h1 : row ≠ some g) (h2 : row ≠ some h) (h3 : ∀ a, A = some a → row ≠ some a.block) : SRd w' h g A c zs s :=
  ⟨(hg.block h x.blk.lt (fun e => h2 e.symm)).trans x.blk, x.rdr.keep hg h1 h3, x.ne, x.far, x.err⟩
theorem SRd.below {w w' : World} {h g c : Nat} {A : Option Addr} {zs : List Int} {s : RS} (x : SRd w h g A c zs s) (hg : Below w.heap.size w w') : SRd w' h g A c zs s :=
  x.keep (row := none) ⟨hg.os, hg.tape, hg.output, hg.size, fun k hk _ => hg.block k hk⟩ (by simp) (by simp) (by simp)
/-- wire's reader has moved on. -/
theorem SRd.move {w w' : World} {h g c p e : Nat} {A : Option Addr} {zs : List Int} {s : RS} (x : SRd w h g A c zs s) (hr : Rdr w' g A c zs p e) (hg : w.grownBy w' (some g)) (he : e ≤ 100) : SRd w' h g A c zs ⟨p, e, s.bad⟩ :=
  ⟨(hg.block h x.blk.lt (fun e => x.ne (by injection e))).trans x.blk, hr, x.ne, x.far, he⟩
theorem SRd.setBad {w : World} {h g c : Nat} {A : Option Addr} {zs : List Int} {s : RS} (x : SRd w h g A c zs s) (b : Bool) : SRd (w.setCell ⟨h, 1, none⟩ (.bool b)) h g A c zs ⟨s.p, s.e, b⟩ := by
  have hg : w.grownBy (w.setCell ⟨h, 1, none⟩ (.bool b)) (some h) := only_set (World.grownBy.refl w _) 1 _
  exact ⟨x.blk.set 1 _, x.rdr.keep hg (fun e => x.ne (by injection e)) (fun a ha e => x.far a ha (by injection e with e; exact e.symm)), x.ne, x.far, x.err⟩

theorem rdFix_err (zs : List Int) (p e n : Nat) (he : e ≤ 100) : (rdFix zs p e n).2.2 ≤ 100 := by
  unfold rdFix; split
  · exact he
  · split <;> simp
theorem rdFix_byt {zs : List Int} (hz : Byt zs) (p e n : Nat) : Byt (rdFix zs p e n).1 := by
  unfold rdFix; split
  · intro x hx; simp at hx
  · split
    · intro x hx; simp at hx
    · exact (hz.drop p).take n
theorem rdPiece_byt {zs : List Int} (hz : Byt zs) (p e : Nat) : Byt (rdPiece zs p e).1 := by
  unfold rdPiece; split
  · intro x hx; simp at hx
  · split
    · intro x hx; simp at hx
    · split
      · intro x hx; simp at hx
      · split
        · intro x hx; simp at hx
        · exact (hz.drop _).take _
theorem rdPiece_err {zs : List Int} (hz : Byt zs) (p e : Nat) (he : e ≤ 100) : (rdPiece zs p e).2.2 ≤ 100 := by
  have := shortOf_le (hz.drop p)
  unfold rdPiece; split
  · exact he
  · split
    · simp only; omega
    · split
      · simp
      · split <;> simp
theorem rdNum_err {zs : List Int} (hz : Byt zs) (p e : Nat) (he : e ≤ 100) : (rdNum zs p e).2.2 ≤ 100 := by
  have := shortOf_le (hz.drop p)
  unfold rdNum; split
  · exact he
  · simp only; omega

theorem spWrong {A : Option Addr} {c h g : Nat} {zs : List Int} {s : RS} (w : World) (x : SRd w h g A c zs s) :
    Calls Try.prog 93 #[.pointer (some ⟨h, 0, none⟩)] w fun e w' => e = .returned (.bool s.stop) ∧ w' = w := by
  have k0 : w.cell? ⟨h, 0, none⟩ = some (.pointer (some ⟨g, 0, none⟩)) := x.blk.cell 0
  have k1 : w.cell? ⟨h, 1, none⟩ = some (.bool s.bad) := x.blk.cell 1
  obtain ⟨p, e, bad⟩ := s
  cases bad with
  | true =>
    have hs : RS.stop ⟨p, e, true⟩ = true := rfl
    rw [hs]
    go_enter Try.func93, Try.ntmps93
    go_wp2
    go_ret
    exact ⟨rfl, rfl⟩
  | false =>
    have hE := Lib.hid (rdrErr w x.rdr)
    have hs : RS.stop ⟨p, e, false⟩ = ((e : Int) != 0) := by
      rw [Bool.eq_iff_iff]
      simp [RS.stop]
    rw [hs]
    clear hs
    go_enter Try.func93, Try.ntmps93
    go_wp2_with (go_at_call 82; refine hE.out.mono ?_; rintro en w' ⟨rfl, hw⟩; rw [hw]; clear hw w')
    go_ret
    exact ⟨rfl, rfl⟩

def RPost (v : Value) (w : World) (h g : Nat) (A : Option Addr) (c : Nat) (zs : List Int) (s : RS) (e : Ending) (w' : World) : Prop :=
  e = .returned v ∧ SRd w' h g A c zs s ∧ Only2 w w' g h
theorem stop_false {s : RS} (h : s.stop = false) : s.e = 0 ∧ s.bad = false := by
  unfold RS.stop at h
  simp at h
  exact ⟨h.2, h.1⟩
theorem rdFix_len (zs : List Int) (p e n : Nat) : (rdFix zs p e n).1 = [] ∨ (rdFix zs p e n).1.length = n := by
  unfold rdFix
  split
  · exact .inl rfl
  · split
    · exact .inl rfl
    · right
      simp only [List.length_take, List.length_drop]
      omega

set_option maxHeartbeats 400000 in
theorem spEight {A : Option Addr} {c h g : Nat} {zs : List Int} {s : RS} (w : World) (x : SRd w h g A c zs s) :
    Calls Try.prog 78 #[.pointer (some ⟨h, 0, none⟩)] w (RPost (.int .u64 (rEight zs s).1) w h g A c zs (rEight zs s).2) := by
  have k0 : w.cell? ⟨h, 0, none⟩ = some (.pointer (some ⟨g, 0, none⟩)) := x.blk.cell 0
  have hW := spWrong w x
  cases hs : s.stop with
  | true =>
    have hr : rEight zs s = (0, s) := by rw [rEight, if_pos hs]
    rw [hr]
    rw [hs] at hW
    have HW := Lib.hid hW
    clear hW hs
    go_enter Try.func78, Try.ntmps78
    go_wp2_with (go_at_call 93; refine HW.out.mono ?_; rintro en w' ⟨rfl, hw⟩; rw [hw]; clear hw w')
    go_ret
    exact ⟨rfl, x, Only2.refl _ _ _⟩
  | false =>
    rw [hs] at hW
    have HW := Lib.hid hW
    have hF := Lib.hid (rdrFixed (n := 8) w x.rdr x.err (by omega))
    have hE := rdFix_err zs s.p s.e 8 x.err
    have hL := rdFix_len zs s.p s.e 8
    have hY := rdFix_byt x.rdr.byt s.p s.e 8
    have hr : rEight zs s = (if (rdFix zs s.p s.e 8).1.length < 8 then 0 else ordVal (rdFix zs s.p s.e 8).1, ⟨(rdFix zs s.p s.e 8).2.1, (rdFix zs s.p s.e 8).2.2, s.bad⟩) := by rw [rEight, if_neg (by rw [hs]; simp)]
    rw [hr]
    obtain ⟨out, p', e', ho⟩ : ∃ out p' e', rdFix zs s.p s.e 8 = (out, p', e') := ⟨_, _, _, rfl⟩
    rw [ho] at hF hE hL hY ⊢
    simp only at hF hE hL hY ⊢
    clear hW hs hr ho
    rcases hL with h0 | h0
    · subst h0
      have e0 : (if ([] : List Int).length < 8 then 0 else ordVal []) = 0 := rfl
      rw [e0]
      go_enter Try.func78, Try.ntmps78
      go_wp2_with (go_at_call 93; refine HW.out.mono ?_; rintro en w' ⟨rfl, hw⟩; rw [hw]; clear hw w')
      refine hF.out.mono ?_
      rintro en w3 ⟨A', c', rfl, hR, hg, hrd, hcp, hlo, hnil⟩
      go_wp2_with fail
      refine (wireReadOrdered0 _ (by simp)).mono ?_
      rintro en w4 ⟨rfl, rfl⟩
      go_wp2
      go_ret
      exact ⟨rfl, x.move hR hg hE, Only2.of hg h⟩
    · have e0 : (if out.length < 8 then 0 else ordVal out) = ordVal out := by rw [if_neg (by omega)]
      rw [e0]
      have H0 := Lib.hid h0
      clear h0 e0
      go_enter Try.func78, Try.ntmps78
      go_wp2_with (go_at_call 93; refine HW.out.mono ?_; rintro en w' ⟨rfl, hw⟩; rw [hw]; clear hw w')
      refine hF.out.mono ?_
      rintro en w3 ⟨A', c', rfl, hR, hg, hrd, hcp, hlo, hnil⟩
      have hro := wireReadOrdered1 _ hrd hY (by rw [H0.out]; simp [maxLen]) (by have := H0.out; omega) rfl hcp
      rw [List.take_of_length_le (by have := H0.out; omega)] at hro
      have HRO := Lib.hid hro
      clear hro
      go_wp2_with fail
      refine HRO.out.mono ?_
      rintro en w4 ⟨rfl, rfl⟩
      go_wp2
      go_ret
      exact ⟨rfl, x.move hR hg hE, Only2.of hg h⟩

set_option maxHeartbeats 400000 in
theorem spRText {A : Option Addr} {c h g : Nat} {zs : List Int} {s : RS} (w : World) (x : SRd w h g A c zs s) :
    Calls Try.prog 79 #[.pointer (some ⟨h, 0, none⟩)] w (RPost (.string (rText zs s).1) w h g A c zs (rText zs s).2) := by
  have k0 : w.cell? ⟨h, 0, none⟩ = some (.pointer (some ⟨g, 0, none⟩)) := x.blk.cell 0
  have hW := spWrong w x
  cases hs : s.stop with
  | true =>
    have hr : rText zs s = (⟨#[]⟩, s) := by rw [rText, if_pos hs]
    rw [hr]
    rw [hs] at hW
    have HW := Lib.hid hW
    clear hW hs
    go_enter Try.func79, Try.ntmps79
    go_wp2_with (go_at_call 93; refine HW.out.mono ?_; rintro en w' ⟨rfl, hw⟩; rw [hw]; clear hw w')
    go_ret
    exact ⟨rfl, x, Only2.refl _ _ _⟩
  | false =>
    rw [hs] at hW
    have HW := Lib.hid hW
    have hF := Lib.hid (rdrPiece w x.rdr x.err)
    have hE := rdPiece_err x.rdr.byt s.p s.e x.err
    have hY := rdPiece_byt x.rdr.byt s.p s.e
    have hr : rText zs s = (strOfNums (rdPiece zs s.p s.e).1, ⟨(rdPiece zs s.p s.e).2.1, (rdPiece zs s.p s.e).2.2, s.bad⟩) := by rw [rText, if_neg (by rw [hs]; simp)]
    rw [hr]
    obtain ⟨out, p', e', ho⟩ : ∃ out p' e', rdPiece zs s.p s.e = (out, p', e') := ⟨_, _, _, rfl⟩
    rw [ho] at hF hE hY ⊢
    simp only at hF hE hY ⊢
    clear hW hs hr ho
    go_enter Try.func79, Try.ntmps79
    go_wp2_with (go_at_call 93; refine HW.out.mono ?_; rintro en w' ⟨rfl, hw⟩; rw [hw]; clear hw w')
    refine hF.out.mono ?_
    rintro en w3 ⟨A', c', rfl, hR, hg, hrd, hcp, hlo, hnil⟩
    have hconv := Rb.str (P := Try.prog) hrd Try.underlying27 Try.underlying5 Try.underlying9 c'
    go_wp2
    go_ret
    exact ⟨rfl, x.move hR hg hE, Only2.of hg h⟩

set_option maxHeartbeats 400000 in
theorem spOne {A : Option Addr} {c h g : Nat} {zs : List Int} {s : RS} (most : Int) (w : World) (x : SRd w h g A c zs s) :
    Calls Try.prog 80 #[.pointer (some ⟨h, 0, none⟩), .int .u8 most] w (RPost (.int .u8 (rOne most zs s).1) w h g A c zs (rOne most zs s).2) := by
  have k0 : w.cell? ⟨h, 0, none⟩ = some (.pointer (some ⟨g, 0, none⟩)) := x.blk.cell 0
  have hW := spWrong w x
  cases hs : s.stop with
  | true =>
    have hr : rOne most zs s = (0, s) := by rw [rOne, if_pos hs]
    rw [hr]
    rw [hs] at hW
    have HW := Lib.hid hW
    clear hW hs
    go_enter Try.func80, Try.ntmps80
    go_wp2_with (go_at_call 93; refine HW.out.mono ?_; rintro en w' ⟨rfl, hw⟩; rw [hw]; clear hw w')
    go_ret
    exact ⟨rfl, x, Only2.refl _ _ _⟩
  | false =>
    rw [hs] at hW
    have HW := Lib.hid hW
    have hF := Lib.hid (rdrFixed (n := 1) w x.rdr x.err (by omega))
    have hE := rdFix_err zs s.p s.e 1 x.err
    have hL := rdFix_len zs s.p s.e 1
    have hr : rOne most zs s = match (rdFix zs s.p s.e 1).1 with
        | [x] => (x, ⟨(rdFix zs s.p s.e 1).2.1, (rdFix zs s.p s.e 1).2.2, decide (most < x)⟩)
        | _ => (0, ⟨(rdFix zs s.p s.e 1).2.1, (rdFix zs s.p s.e 1).2.2, s.bad⟩) := by rw [rOne, if_neg (by rw [hs]; simp)]
    rw [hr]
    obtain ⟨out, p', e', ho⟩ : ∃ out p' e', rdFix zs s.p s.e 1 = (out, p', e') := ⟨_, _, _, rfl⟩
    rw [ho] at hF hE hL ⊢
    simp only at hF hE hL ⊢
    clear hW hs hr ho
    rcases hL with h0 | h0
    · subst h0
      go_enter Try.func80, Try.ntmps80
      go_wp2_with (go_at_call 93; refine HW.out.mono ?_; rintro en w' ⟨rfl, hw⟩; rw [hw]; clear hw w')
      refine hF.out.mono ?_
      rintro en w3 ⟨A', c', rfl, hR, hg, hrd, hcp, hlo, hnil⟩
      go_wp2
      go_ret
      exact ⟨rfl, x.move hR hg hE, Only2.of hg h⟩
    · obtain ⟨y, rfl⟩ : ∃ y, out = [y] := List.length_eq_one_iff.1 h0
      clear h0
      go_enter Try.func80, Try.ntmps80
      go_wp2_with (go_at_call 93; refine HW.out.mono ?_; rintro en w' ⟨rfl, hw⟩; rw [hw]; clear hw w')
      refine hF.out.mono ?_
      rintro en w3 ⟨A', c', rfl, hR, hg, hrd, hcp, hlo, hnil⟩
      obtain ⟨b, o, y', hy', rfl, hb, hcell⟩ := hrd.get (k := 0) (by simp)
      simp at hy'
      subst hy'
      rw [Nat.add_zero] at hcell
      have x3 := x.move hR hg hE
      have k1 : w3.cell? ⟨h, 1, none⟩ = some (.bool s.bad) := x3.blk.cell 1
      have f1 : w3.frozen? ⟨h, 1, none⟩ = false := x3.blk.frozen 1
      have k0' : w3.cell? ⟨h, 0, none⟩ = some (.pointer (some ⟨g, 0, none⟩)) := x3.blk.cell 0
      have hbh : b ≠ h := fun e => by
        have := hlo _ rfl
        have hh := x.blk.lt
        simp at this
        omega
      have hcell' : (w3.setCell ⟨h, 1, none⟩ (.bool (decide (most < y)))).cell? ⟨b, o, none⟩ = some (.int .u8 y) := (World.cell?_setCell_other w3 _ ⟨b, o, none⟩ _ (fun e => hbh (congrArg Addr.block e).symm)).trans hcell
      go_wp2
      go_ret
      exact ⟨rfl, x3.setBad _, (Only2.of hg h).set 1 _⟩

set_option maxHeartbeats 400000 in
theorem spShort {A : Option Addr} {c h g : Nat} {zs : List Int} {s : RS} (most : Nat) (hm : most ≤ 4611686018427387903) (w : World) (x : SRd w h g A c zs s) :
    Calls Try.prog 81 #[.pointer (some ⟨h, 0, none⟩), .int .u64 most] w (RPost (.int .i64 (rShort most zs s).1) w h g A c zs (rShort most zs s).2) := by
  have k0 : w.cell? ⟨h, 0, none⟩ = some (.pointer (some ⟨g, 0, none⟩)) := x.blk.cell 0
  have hW := spWrong w x
  cases hs : s.stop with
  | true =>
    have hr : rShort most zs s = (0, s) := by rw [rShort, if_pos hs]
    rw [hr]
    rw [hs] at hW
    have HW := Lib.hid hW
    clear hW hs
    go_enter Try.func81, Try.ntmps81
    go_wp2_with (go_at_call 93; refine HW.out.mono ?_; rintro en w' ⟨rfl, hw⟩; rw [hw]; clear hw w')
    go_ret
    exact ⟨rfl, x, Only2.refl _ _ _⟩
  | false =>
    rw [hs] at hW
    have HW := Lib.hid hW
    have hE := rdNum_err x.rdr.byt s.p s.e x.err
    have hr : rShort most zs s = if most < (rdNum zs s.p s.e).1 then (0, ⟨(rdNum zs s.p s.e).2.1, (rdNum zs s.p s.e).2.2, true⟩) else ((rdNum zs s.p s.e).1, ⟨(rdNum zs s.p s.e).2.1, (rdNum zs s.p s.e).2.2, s.bad⟩) := by rw [rShort, if_neg (by rw [hs]; simp)]
    rw [hr]
    obtain ⟨v, p', e', ho⟩ : ∃ v p' e', rdNum zs s.p s.e = (v, p', e') := ⟨_, _, _, rfl⟩
    have hF2 : Calls Try.prog 96 #[.pointer (some ⟨g, 0, none⟩)] w (fun en w' => en = .returned (.int .u64 v) ∧ Rdr w' g A c zs p' e' ∧ w.grownBy w' (some g)) := by
      have := rdrNumber w x.rdr x.err
      unfold NumPost at this
      rw [ho] at this
      exact this
    rw [ho] at hE ⊢
    simp only at hE ⊢
    have HF := Lib.hid hF2
    clear hW hs hr ho hF2
    by_cases hv : most < v
    · rw [if_pos hv]
      have d1 : (most : Int) < (v : Int) := by omega
      go_enter Try.func81, Try.ntmps81
      go_wp2_with (go_at_call 93; refine HW.out.mono ?_; rintro en w' ⟨rfl, hw⟩; rw [hw]; clear hw w')
      refine HF.out.mono ?_
      rintro en w3 ⟨rfl, hR, hg⟩
      have x3 := x.move hR hg hE
      have k1 : w3.cell? ⟨h, 1, none⟩ = some (.bool s.bad) := x3.blk.cell 1
      have f1 : w3.frozen? ⟨h, 1, none⟩ = false := x3.blk.frozen 1
      go_wp2
      go_ret
      exact ⟨rfl, x3.setBad _, (Only2.of hg h).set 1 _⟩
    · rw [if_neg hv]
      have d1 : decide ((most : Int) < (v : Int)) = false := by simp; omega
      have d2 : (v : Int) ≤ 4611686018427387903 := by omega
      go_enter Try.func81, Try.ntmps81
      go_wp2_with (go_at_call 93; refine HW.out.mono ?_; rintro en w' ⟨rfl, hw⟩; rw [hw]; clear hw w')
      refine HF.out.mono ?_
      rintro en w3 ⟨rfl, hR, hg⟩
      have x3 := x.move hR hg hE
      go_wp2
      go_ret
      exact ⟨rfl, x3, Only2.of hg h⟩
end Go.Proofs.Ytlamebbolioljaa

/- Spans: Parse: what it computes, its memory. -/
namespace Go.Proofs.Ytlamebbolioljaa
open Go.RowKit

/-- What Parse has read ahead of the tags: the span without them, their number, the reader. -/
def prHead (zs : List Int) : Sp × Nat × RS :=
  let a := rEight zs ⟨0, 0, false⟩
  let b := rEight zs a.2
  let c := rEight zs b.2
  let d := rEight zs c.2
  let e := rText zs d.2
  let f := rText zs e.2
  let k := rOne 255 zs f.2
  let st := rShort 4611686018427387903 zs k.2
  let ln := rShort 4611686018427387903 zs st.2
  let fl := rOne 1 zs ln.2
  let n := rShort 16 zs fl.2
  (⟨a.1, b.1, c.1, d.1, e.1, f.1, k.1, st.1, ln.1, fl.1 == 1, []⟩, n.1, n.2)
def prTags (zs : List Int) : Nat → List Tg → RS → List Tg × RS
  | 0, acc, s => (acc, s)
  | n + 1, acc, s => prTags zs n (acc ++ [⟨(rText zs s).1, (rText zs (rText zs s).2).1⟩]) (rText zs (rText zs s).2).2
/-- The span that was read, and the reader behind it. -/
def prAll (zs : List Int) : Sp × RS := ({ (prHead zs).1 with tags := (prTags zs (prHead zs).2.1 [] (prHead zs).2.2).1 }, (prTags zs (prHead zs).2.1 [] (prHead zs).2.2).2)
def prErrOf (zs : List Int) (s : Sp) (r : RS) : Nat :=
  if r.e ≠ 0 then r.e else if r.bad = true then 4 else if r.p < zs.length then 4 else spChk s
/-- What Parse tells. -/
def prErr (zs : List Int) : Nat := prErrOf zs (prAll zs).1 (prAll zs).2
def zeroSp : Sp := ⟨0, 0, 0, 0, ⟨#[]⟩, ⟨#[]⟩, 0, 0, 0, false, []⟩
/-- A zero span's cells. -/
abbrev zspC : Array Value := #[.int .u64 0, .int .u64 0, .int .u64 0, .int .u64 0, .string ⟨#[]⟩, .string ⟨#[]⟩, .int .i64 0, .int .i64 0, .int .i64 0, .bool false, .slice none 0 0]
def prSp (zs : List Int) : Sp := if prErr zs = 0 then (prAll zs).1 else zeroSp

theorem tginfo : (Try.prog.info? 97).map (fun i => (i.zero, i.size, i.bytes)) = some (some (.agg #[.string ⟨#[]⟩, .string ⟨#[]⟩]), 2, 32) := by kernel_rfl
/-- append of tags. -/
theorem wp_appT (w : World) {o : Oper} {a : Act} {K : Act → World → Prop} {Q : Exit → Act → World → Prop} (s x : Operand)
    (ho : o.op = .call { callee := .builtin .append, args := #[s, x], argTypes := #[41, 41] })
    (base : Nat) (v : Value) (n : Nat) (l : List Tg) (hs : a.eval s = v) (hown : w.ownsRow base 97 2 v n (tgs l))
    (B : Nat) (A : Option Addr) (m c : Nat) (news : List Tg) (hx : a.eval x = .slice A m c) (hl : news.length = m) (hr : RbT w B A news)
    (hbytes : n + m ≤ 4398046511104) (hbase : base ≤ w.heap.size)
    (h : ∀ A' c' w', App base 97 2 w v w' (.slice A' (n + m) c') (n + m) (tgs (l ++ news)) → (A' = none → v = .slice none 0 0 ∧ m = 0) → K (a.put o.dst (.slice A' (n + m) c')) w') :
    o.wp Try.prog a w K Q := by
  obtain ⟨i0, hi0, hz0, hz1, hz2⟩ := info_parts tginfo
  refine wp_app w s x _ ho base 97 i0 _ 2 32 Try.underlying41 hi0 hz0 hz1 hz2 rfl (by omega) v n (tgs l) hs hown B A m c (tgs news) hx (by rw [tgs_length, hl]) hr (tgs_one news) (by simp only [maxLen]; omega) (by omega) hbase ?_
  intro A' c' w' h1 h2 h3 h4
  rw [← tgs_append] at h1
  exact h A' c' w' ((App.refl hown).step h1 h2 h3) h4
theorem step_appT {w : World} {ops : Array Oper} {o : Oper} {a : Act} {K : Act → World → Prop} {Q : Exit → Act → World → Prop} {E : Prop} (hgd : o.guard = none) (s x : Operand)
    (ho : o.op = .call { callee := .builtin .append, args := #[s, x], argTypes := #[41, 41] })
    (base : Nat) (v : Value) (n : Nat) (l : List Tg) (hs : a.eval s = v) (hown : w.ownsRow base 97 2 v n (tgs l))
    (B : Nat) (A : Option Addr) (m c : Nat) (news : List Tg) (hx : a.eval x = .slice A m c) (hl : news.length = m) (hr : RbT w B A news)
    (hbytes : n + m ≤ 4398046511104) (hbase : base ≤ w.heap.size)
    (h : ∀ A' c' w', App base 97 2 w v w' (.slice A' (n + m) c') (n + m) (tgs (l ++ news)) → (A' = none → v = .slice none 0 0 ∧ m = 0) → K (a.put o.dst (.slice A' (n + m) c')) w') :
    if Region.wanted o (yielded ops a.tmps) = true then Oper.wp Try.prog o a w K Q else E := by
  have hw : Region.wanted o (yielded ops a.tmps) = true := by simp [Region.wanted, hgd]
  rw [if_pos hw]
  exact wp_appT w s x ho base v n l hs hown B A m c news hx hl hr hbytes hbase h

/-- 'append', shut: what a walk through a drawn region is told of it by an equation. -/
def appK (ts : Array TypeId) (ty : TypeId) (vs : Array Value) : Sem Value := Builtin.append_ ts ty vs
theorem appK_shut (ts : Array TypeId) (ty : TypeId) (vs : Array Value) : Builtin.append_ ts ty vs = appK ts ty vs := rfl
theorem run_appT (w : World) (base : Nat) (v : Value) (n : Nat) (l : List Tg) (hown : w.ownsRow base 97 2 v n (tgs l))
    (B : Nat) (A : Option Addr) (m c : Nat) (news : List Tg) (hl : news.length = m) (hr : RbT w B A news) (hbytes : n + m ≤ 4398046511104) (hbase : base ≤ w.heap.size) :
    ∃ A' c' w', (appK #[41, 41] 41 #[v, .slice A m c]).run Try.prog w = .ok (.slice A' (n + m) c') w' ∧ App base 97 2 w v w' (.slice A' (n + m) c') (n + m) (tgs (l ++ news)) := by
  obtain ⟨i0, hi0, hz0, hz1, hz2⟩ := info_parts tginfo
  obtain ⟨v', w', hrun, h2, h3, h4, ⟨A', c', rfl⟩, h6⟩ := run_app (P := Try.prog) w base 41 41 97 i0 _ 2 32 Try.underlying41 hi0 hz0 hz1 hz2 rfl (by omega) v n (tgs l) hown B A m c (tgs news) (by rw [tgs_length, hl]) hr (tgs_one news) (by simp only [maxLen]; omega) (by omega) hbase
  rw [← tgs_append] at h2
  exact ⟨A', c', w', hrun, (App.refl hown).step h2 h3 h4⟩

theorem results_cell_row_tmp {P : Program} {fn : Func} {p u : Tmp} {ty : TypeId} (h : fn.results = #[.cell p ty, .tmp u]) (tmps : Array Value) (w : World) (g : Nat) (t : TypeId) (cs : Array Value) (d : TypeDesc)
    (hp : tmps.getD p undef = .pointer (some ⟨g, 0, none⟩)) (hg : Bk w g t cs)
    (hu : P.underlying ty = some d) (hd : (match d with | .struct _ | .array _ _ => true | _ => false) = true) (hi : (P.info? ty).map (·.size) = some cs.size) :
    (results fn tmps).run P w = .ok (.tuple #[.agg cs, tmps.getD u undef]) w := by
  rw [results_cell_tmp h, hp]
  simp [asAddr, Result.andThen, run_loadVar_row w g t ty cs (0, 0) d hg hu hd hi]
theorem spC_one (s : Sp) (A : Option Addr) (n c : Nat) : (spC s A n c).all (·.oneCell') = true := by simp [Value.oneCell']
theorem zspC_one : zspC.all (·.oneCell') = true := by simp [Value.oneCell']
/-- Parse's memory: the reader, the span it fills, the result, the tags. -/
structure PS (w0 W : World) (h g sb rb lo : Nat) (A : Option Addr) (c : Nat) (zs : List Int) (st : RS) (cells : Array Value) (At : Option Addr) (nt ct : Nat) (acc : List Tg) : Prop where
  rd : SRd W h g A c zs st
  sp : Bk W sb 43 cells
  rs : Bk W rb 43 zspC
  own : W.ownsRow lo 97 2 (.slice At nt ct) nt (tgs acc)
  len : acc.length = nt
  bel : Below w0.heap.size w0 W
  hlo : lo ≤ W.heap.size
  hg : w0.heap.size ≤ g ∧ g < lo
  hh : w0.heap.size ≤ h ∧ h < lo
  hs : w0.heap.size ≤ sb ∧ sb < lo
  hr : w0.heap.size ≤ rb ∧ rb < lo
  ne : sb ≠ g ∧ sb ≠ h ∧ rb ≠ g ∧ rb ≠ h ∧ rb ≠ sb
  hA : ∀ a, A = some a → a.block < lo ∧ a.block ≠ sb
section
variable {w0 W W' : World} {h g sb rb lo : Nat} {A : Option Addr} {c : Nat} {zs : List Int} {st st' : RS} {cells : Array Value} {At : Option Addr} {nt ct : Nat} {acc : List Tg}
theorem PS.call (p : PS w0 W h g sb rb lo A c zs st cells At nt ct acc) (hR : SRd W' h g A c zs st') (ho : Only2 W W' g h) : PS w0 W' h g sb rb lo A c zs st' cells At nt ct acc := by
  have hg1 := p.hg
  have hh1 := p.hh
  have hown : ∀ k, (Value.slice At nt ct).ownBlock = some k → k ≠ g ∧ k ≠ h := fun k hk => by
    have := (p.own.lt k hk).1
    omega
  refine ⟨hR, ho.bk p.sp p.ne.1 p.ne.2.1, ho.bk p.rs p.ne.2.2.1 p.ne.2.2.2.1, ?_, p.len, ?_, Nat.le_trans p.hlo ho.size, p.hg, p.hh, p.hs, p.hr, p.ne, p.hA⟩
  · refine ⟨p.own.1, p.own.2.imp id ?_⟩
    rintro ⟨k, cap, cur, hv, hk, r⟩
    obtain ⟨k1, k2⟩ := hown k (by rw [hv]; rfl)
    have hlt := (p.own.lt k (by rw [hv]; rfl)).2
    exact ⟨k, cap, cur, hv, hk, (ho.block k hlt k1 k2).trans r.1, r.2⟩
  · exact p.bel.trans (ho.below p.bel.size hg1.1 hh1.1)
theorem PS.store (p : PS w0 W h g sb rb lo A c zs st cells At nt ct acc) (o : Nat) (u : Value) : PS w0 (W.setCell ⟨sb, o, none⟩ u) h g sb rb lo A c zs st (cells.setIfInBounds o u) At nt ct acc := by
  have hst : W.grownBy (W.setCell ⟨sb, o, none⟩ u) (some sb) := only_set (World.grownBy.refl _ _) _ _
  have e0 := p.hs
  refine ⟨p.rd.keep hst (fun e => p.ne.1 (by injection e)) (fun e => p.ne.2.1 (by injection e)) (fun a ha e => (p.hA a ha).2 (by injection e with e; exact e.symm)), p.sp.set o u, p.rs.far (fun e => p.ne.2.2.2.2 e) u,
    p.own.kept hst (.inr fun e => by have := (p.own.lt sb e).1; omega), p.len, ?_, by simpa [World.setCell] using p.hlo, p.hg, p.hh, p.hs, p.hr, p.ne, p.hA⟩
  exact p.bel.trans ⟨hst.os, hst.tape, hst.output, hst.size, fun q hq => hst.block q (by have := p.bel.size; omega) (fun e => by injection e with e; omega)⟩
theorem PS.below (p : PS w0 W h g sb rb lo A c zs st cells At nt ct acc) (hb : Below W.heap.size W W') : PS w0 W' h g sb rb lo A c zs st cells At nt ct acc :=
  p.call (p.rd.below hb) ⟨hb.os, hb.tape, hb.output, hb.size, fun i hi _ _ => hb.block i hi⟩
theorem PS.facts (p : PS w0 W h g sb rb lo A c zs st cells At nt ct acc) (i : Nat) : W.cell? ⟨sb, i, none⟩ = cells[i]? ∧ W.frozen? ⟨sb, i, none⟩ = false := ⟨p.sp.cell i, p.sp.frozen i⟩
/-- A tag more. -/
theorem PS.app {At' : Option Addr} {ct' : Nat} {t : Tg} (p : PS w0 W h g sb rb lo A c zs st cells At nt ct acc) (k : App lo 97 2 W (.slice At nt ct) W' (.slice At' (nt + 1) ct') (nt + 1) (tgs (acc ++ [t]))) :
    PS w0 W' h g sb rb lo A c zs st cells At' (nt + 1) ct' (acc ++ [t]) := by
  have hown : ∀ q, (Value.slice At nt ct).ownBlock = some q → lo ≤ q := fun q hq => (p.own.lt q hq).1
  have hg := k.grown
  have e0 := p.hg
  have e1 := p.hh
  have e2 := p.hs
  have e3 := p.hr
  refine ⟨p.rd.keep hg (fun e => by have := hown g e; omega) (fun e => by have := hown h e; omega) (fun a ha e => by have := hown _ e; have := (p.hA a ha).1; omega), p.sp.grown hg (fun e => by have := hown sb e.symm; omega), p.rs.grown hg (fun e => by have := hown rb e.symm; omega), k.own, by simp [p.len], ?_, Nat.le_trans p.hlo hg.size, p.hg, p.hh, p.hs, p.hr, p.ne, p.hA⟩
  exact p.bel.trans (k.below (B := w0.heap.size) (by have := p.bel.size; omega) (fun q hq => by have := hown q hq; omega))
theorem PS.drew (p : PS w0 W h g sb rb lo A c zs st cells At nt ct acc) : PS w0 W.drew h g sb rb lo A c zs st cells At nt ct acc := p.below (below_drewN (Below.refl _ W) 1)
end

/-! The reader's methods, by what they give. -/
section
variable {A : Option Addr} {c h g : Nat} {zs : List Int} {s s' : RS}
theorem spEight' {v : Nat} (w : World) (x : SRd w h g A c zs s) (he : rEight zs s = (v, s')) : Calls Try.prog 78 #[.pointer (some ⟨h, 0, none⟩)] w (RPost (.int .u64 v) w h g A c zs s') := by
  have := spEight w x
  rwa [he] at this
theorem spRText' {v : ByteArray} (w : World) (x : SRd w h g A c zs s) (he : rText zs s = (v, s')) : Calls Try.prog 79 #[.pointer (some ⟨h, 0, none⟩)] w (RPost (.string v) w h g A c zs s') := by
  have := spRText w x
  rwa [he] at this
theorem spOne' {most v : Int} (w : World) (x : SRd w h g A c zs s) (he : rOne most zs s = (v, s')) : Calls Try.prog 80 #[.pointer (some ⟨h, 0, none⟩), .int .u8 most] w (RPost (.int .u8 v) w h g A c zs s') := by
  have := spOne most w x
  rwa [he] at this
theorem spShort' {most v : Nat} {m : Int} (hme : m = most) (hm : most ≤ 4611686018427387903) (w : World) (x : SRd w h g A c zs s) (he : rShort most zs s = (v, s')) : Calls Try.prog 81 #[.pointer (some ⟨h, 0, none⟩), .int .u64 m] w (RPost (.int .i64 v) w h g A c zs s') := by
  subst hme
  have := spShort most hm w x
  rwa [he] at this
end
theorem rShort_le {most : Nat} {zs : List Int} {s : RS} : (rShort most zs s).1 ≤ most := by
  unfold rShort
  split
  · simp
  · split
    · simp
    · simp only; omega
theorem rOne_rng {most : Int} {zs : List Int} (hz : Byt zs) (s : RS) : 0 ≤ (rOne most zs s).1 ∧ (rOne most zs s).1 ≤ 255 := by
  unfold rOne
  split
  · simp
  · have hb := rdFix_byt hz s.p s.e 1
    split
    · rename_i x hx
      rw [hx] at hb
      exact hb x (by simp)
    · simp
end Go.Proofs.Ytlamebbolioljaa

/- Spans: Parse. -/
namespace Go.Proofs.Ytlamebbolioljaa
open Go.RowKit
attribute [local go_sem ↓] appK_shut

theorem Bk.row {w : World} {g : Nat} {t : TypeId} {old : Array Value} (h : Bk w g t old) (cs : Array Value) : Bk (w.setRow g cs) g t cs := setRow_heap w g old cs t (0, 0) h
theorem only_row {w : World} (g : Nat) (cs : Array Value) : w.grownBy (w.setRow g cs) (some g) :=
  ⟨rfl, rfl, rfl, by simp [World.setRow], fun i hi hne => by simp [World.setRow, Array.getElem?_modify]; intro e; subst e; exact absurd rfl hne⟩
def ParsePost (w : World) (zs : List Int) (e : Ending) (w' : World) : Prop :=
  ∃ At ct, e = .returned (.tuple #[spV (prSp zs) At (prSp zs).tags.length ct, .int .i64 (prErr zs)]) ∧ RbT w' w'.heap.size At (prSp zs).tags ∧ Below w.heap.size w w' ∧ (prSp zs).tags.length ≤ ct ∧ (∀ a, At = some a → w.heap.size ≤ a.block)
theorem parsePost_bad {w W : World} {rb k : Nat} {zs : List Int} {e : Ending} (he : prErr zs = k) (hk : k ≠ 0) (hb : Below w.heap.size w W) (hrb : w.heap.size ≤ rb) (hr : e = .returned (.tuple #[.agg zspC, .int .i64 k])) :
    ParsePost w zs e (W.setRow rb zspC) := by
  have hs : prSp zs = zeroSp := by rw [prSp, if_neg (by omega)]
  have h1 := only_row (w := W) rb zspC
  rw [ParsePost, hs, he]
  exact ⟨none, 0, hr, Rd.nil, hb.trans ⟨h1.os, h1.tape, h1.output, h1.size, fun k hk => h1.block k (by have := hb.size; omega) (fun e => by injection e; omega)⟩, Nat.le_refl _, fun a ha => by cases ha⟩
theorem PS.good {w W : World} {h g sb rb lo : Nat} {A : Option Addr} {c : Nat} {zs : List Int} {st : RS} {s : Sp} {At : Option Addr} {i ct : Nat} {acc : List Tg} (q : PS w W h g sb rb lo A c zs st (spC s At i ct) At i ct acc)
    (he : prErr zs = 0) (ha : prAll zs = (s, st)) (hl : s.tags.length = i) (ht : s.tags = acc) (hrb : w.heap.size = rb) :
    ParsePost w zs (.returned (.tuple #[.agg (spC s At i ct), .int .i64 0])) (W.setRow rb (spC s At i ct)) := by
  have hs : prSp zs = s := by rw [prSp, if_pos he, ha]
  have h1 := only_row (w := W) rb (spC s At i ct)
  have e0 := q.hr
  have hown := q.own.kept h1 (.inr fun e => by have := (q.own.lt rb e).1; omega)
  rw [ParsePost, hs, he, hl]
  refine ⟨At, ct, rfl, by rw [ht]; exact Rd.of_own hown, q.bel.trans ⟨h1.os, h1.tape, h1.output, h1.size, fun k hk => h1.block k (by have := q.bel.size; omega) (fun e => by injection e; omega)⟩, ?_, fun a ha => ?_⟩
  · rcases q.own.2 with ⟨h1, h2⟩ | ⟨_, _, _, h1, _, _, h2, _⟩
    · omega
    · injection h1 with _ _ h3; omega
  · subst ha
    have := (q.own.lt a.block rfl).1
    have := q.hs
    omega
set_option maxRecDepth 100000 in
set_option maxHeartbeats 8000000 in
theorem spParse {A0 : Option Addr} {c0 B n : Nat} {zs : List Int} (w : World) (ha : Rb w B A0 zs) (hB : B ≤ w.heap.size) (hz : Byt zs) (hl : zs.length ≤ 140737488351232) (hc : A0 = none → zs = [] ∧ c0 = 0) (hn : zs.length = n) :
    Calls Try.prog 54 #[.slice A0 n c0] w (ParsePost w zs) := by
  obtain ⟨sp, nt, r0, hp⟩ : ∃ sp nt r0, prHead zs = (sp, nt, r0) := ⟨_, _, _, rfl⟩
  have hnt : nt ≤ 16 := by
    have h := congrArg (fun x => x.2.1) hp
    simp only [prHead] at h
    rw [← h]
    exact rShort_le
  have hall : prAll zs = ({ sp with tags := (prTags zs nt [] r0).1 }, (prTags zs nt [] r0).2) := by rw [prAll, hp]
  unfold prHead at hp
  obtain ⟨x1, s1, h1⟩ : ∃ x s, rEight zs ⟨0, 0, false⟩ = (x, s) := ⟨_, _, rfl⟩
  obtain ⟨x2, s2, h2⟩ : ∃ x s, rEight zs s1 = (x, s) := ⟨_, _, rfl⟩
  obtain ⟨x3, s3, h3⟩ : ∃ x s, rEight zs s2 = (x, s) := ⟨_, _, rfl⟩
  obtain ⟨x4, s4, h4⟩ : ∃ x s, rEight zs s3 = (x, s) := ⟨_, _, rfl⟩
  obtain ⟨t5, s5, h5⟩ : ∃ x s, rText zs s4 = (x, s) := ⟨_, _, rfl⟩
  obtain ⟨t6, s6, h6⟩ : ∃ x s, rText zs s5 = (x, s) := ⟨_, _, rfl⟩
  obtain ⟨x7, s7, h7⟩ : ∃ x s, rOne 255 zs s6 = (x, s) := ⟨_, _, rfl⟩
  obtain ⟨x8, s8, h8⟩ : ∃ x s, rShort 4611686018427387903 zs s7 = (x, s) := ⟨_, _, rfl⟩
  obtain ⟨x9, s9, h9⟩ : ∃ x s, rShort 4611686018427387903 zs s8 = (x, s) := ⟨_, _, rfl⟩
  obtain ⟨x10, s10, h10⟩ : ∃ x s, rOne 1 zs s9 = (x, s) := ⟨_, _, rfl⟩
  obtain ⟨x11, s11, h11⟩ : ∃ x s, rShort 16 zs s10 = (x, s) := ⟨_, _, rfl⟩
  have b7 := rOne_rng (most := 255) hz s6
  rw [h7] at b7
  have b10 := rOne_rng (most := 1) hz s9
  rw [h10] at b10
  simp only [h1, h2, h3, h4, h5, h6, h7, h8, h9, h10, h11] at hp b7 b10
  simp only [Prod.mk.injEq] at hp
  obtain ⟨hsp, hnt', hr0⟩ := hp
  subst hnt' hr0
  have H1 := Lib.hid h1
  have H2 := Lib.hid h2
  have H3 := Lib.hid h3
  have H4 := Lib.hid h4
  have H5 := Lib.hid h5
  have H6 := Lib.hid h6
  have H7 := Lib.hid h7
  have H8 := Lib.hid h8
  have H9 := Lib.hid h9
  have H10 := Lib.hid h10
  have H11 := Lib.hid h11
  have HSP := Lib.hid hsp
  have HALL := Lib.hid hall
  clear h1 h2 h3 h4 h5 h6 h7 h8 h9 h10 h11 hsp hall
  have hb0 : Below w.heap.size w (w.alloc (.cells zspC 43)) := (Below.refl _ w).alloc (Nat.le_refl _) _
  have hs0 : (w.alloc (.cells zspC 43)).heap.size = w.heap.size + 1 := by simp
  have ha0 := Rd.alloc ha hB (.cells zspC 43)
  have bk0 := Bk.new w 43 zspC
  go_enter Try.func54, Try.ntmps54
  go_wp2_with fail
  obtain ⟨w1, hw1⟩ : ∃ w1, w.alloc (.cells zspC 43) = w1 := ⟨_, rfl⟩
  rw [hw1]
  rw [hw1] at hb0 hs0 ha0 bk0
  clear hw1
  have HN := Lib.hid hn
  refine (rdrNewB w1 ha0 (by omega) hz hl hc hn).mono ?_
  rintro e w2 ⟨g, A, c, rfl, hR, hb2, hg2, hA2⟩
  have hs2 := hb2.size
  have hgl := hR.blk.lt
  have bk2 := bk0.below hb2 (by omega)
  have hb3 : Below w2.heap.size w2 ((w2.alloc (.cells #[.pointer (some ⟨g, 0, none⟩), .bool false] 124)).alloc (.cells zspC 43)) := ((Below.refl _ w2).alloc (Nat.le_refl _) _).alloc (by simp) _
  have ps : PS w ((w2.alloc (.cells #[.pointer (some ⟨g, 0, none⟩), .bool false] 124)).alloc (.cells zspC 43)) w2.heap.size g (w2.heap.size + 1) w.heap.size (w2.heap.size + 2) A c zs ⟨0, 0, false⟩ zspC none 0 0 [] := by
    refine ⟨⟨(Bk.new w2 _ _).alloc _, hR.below hb3, by omega, fun a ha => by have := (hA2 a ha).2; omega, by simp⟩, ?_, bk2.below hb3 (by omega), World.ownsRow_nil _ _ _ _, rfl, (hb0.trans (hb2.mono (by omega))).trans (hb3.mono (by omega)), by simp, by omega, by omega, by omega, by omega, by omega, fun a ha => by have := hA2 a ha; omega⟩
    have h := Bk.new (w2.alloc (.cells #[.pointer (some ⟨g, 0, none⟩), .bool false] 124)) 43 zspC
    simpa using h
  go_wp2_with fail
  obtain ⟨W, hW⟩ : ∃ W, ((w2.alloc (.cells #[.pointer (some ⟨g, 0, none⟩), .bool false] 124)).alloc (.cells zspC 43)) = W := ⟨_, rfl⟩
  rw [hW] at ps ⊢
  obtain ⟨h, hh⟩ : ∃ h, w2.heap.size = h := ⟨_, rfl⟩
  obtain ⟨sb, hsb⟩ : ∃ sb, h + 1 = sb := ⟨_, rfl⟩
  obtain ⟨lo, hlo⟩ : ∃ lo, h + 2 = lo := ⟨_, rfl⟩
  obtain ⟨rb, hrb⟩ : ∃ rb, w.heap.size = rb := ⟨_, rfl⟩
  rw [hh, hsb, hlo, hrb] at ps
  rw [hh, hsb, hrb]
  clear hW hh hsb hlo hb3 bk2 hR hb2 hg2 hA2 hs2 hgl bk0 ha0 hs0 hb0 ha w2
  have HRB := Lib.hid hrb
  clear hrb
  refine (spEight' W ps.rd H1.out).mono ?_
  rintro e V1 ⟨rfl, r1, o1⟩
  have ps1 := ps.call r1 o1
  clear ps r1 o1
  go_wp2_with fail
  refine (spEight' V1 ps1.rd H2.out).mono ?_
  rintro e V2 ⟨rfl, r2, o2⟩
  have ps2 := ps1.call r2 o2
  clear ps1 r2 o2
  have k0 : (V2).cell? ⟨sb, 0, none⟩ = some (.int .u64 0) := (ps2.facts 0).1
  have f0 : (V2).frozen? ⟨sb, 0, none⟩ = false := (ps2.facts 0).2
  have q0 : PS w ((V2).setCell ⟨sb, 0, none⟩ (.int .u64 x1)) h g sb rb lo A c zs s2 #[.int .u64 x1, .int .u64 0, .int .u64 0, .int .u64 0, .string ⟨#[]⟩, .string ⟨#[]⟩, .int .i64 0, .int .i64 0, .int .i64 0, .bool false, .slice none 0 0] none 0 0 [] := ps2.store 0 _
  have k1 : ((V2).setCell ⟨sb, 0, none⟩ (.int .u64 x1)).cell? ⟨sb, 1, none⟩ = some (.int .u64 0) := (q0.facts 1).1
  have f1 : ((V2).setCell ⟨sb, 0, none⟩ (.int .u64 x1)).frozen? ⟨sb, 1, none⟩ = false := (q0.facts 1).2
  have q1 : PS w (((V2).setCell ⟨sb, 0, none⟩ (.int .u64 x1)).setCell ⟨sb, 1, none⟩ (.int .u64 x2)) h g sb rb lo A c zs s2 #[.int .u64 x1, .int .u64 x2, .int .u64 0, .int .u64 0, .string ⟨#[]⟩, .string ⟨#[]⟩, .int .i64 0, .int .i64 0, .int .i64 0, .bool false, .slice none 0 0] none 0 0 [] := q0.store 1 _
  go_wp2_with fail
  obtain ⟨V3, hV⟩ : ∃ V, ((V2).setCell ⟨sb, 0, none⟩ (.int .u64 x1)).setCell ⟨sb, 1, none⟩ (.int .u64 x2) = V := ⟨_, rfl⟩
  rw [hV] at q1 ⊢
  clear hV k0 f0 k1 f1 q0 ps2
  have ps3 := q1
  clear q1
  refine (spEight' V3 ps3.rd H3.out).mono ?_
  rintro e V4 ⟨rfl, r4, o4⟩
  have ps4 := ps3.call r4 o4
  clear ps3 r4 o4
  go_wp2_with fail
  refine (spEight' V4 ps4.rd H4.out).mono ?_
  rintro e V5 ⟨rfl, r5, o5⟩
  have ps5 := ps4.call r5 o5
  clear ps4 r5 o5
  have k2 : (V5).cell? ⟨sb, 2, none⟩ = some (.int .u64 0) := (ps5.facts 2).1
  have f2 : (V5).frozen? ⟨sb, 2, none⟩ = false := (ps5.facts 2).2
  have q2 : PS w ((V5).setCell ⟨sb, 2, none⟩ (.int .u64 x3)) h g sb rb lo A c zs s4 #[.int .u64 x1, .int .u64 x2, .int .u64 x3, .int .u64 0, .string ⟨#[]⟩, .string ⟨#[]⟩, .int .i64 0, .int .i64 0, .int .i64 0, .bool false, .slice none 0 0] none 0 0 [] := ps5.store 2 _
  have k3 : ((V5).setCell ⟨sb, 2, none⟩ (.int .u64 x3)).cell? ⟨sb, 3, none⟩ = some (.int .u64 0) := (q2.facts 3).1
  have f3 : ((V5).setCell ⟨sb, 2, none⟩ (.int .u64 x3)).frozen? ⟨sb, 3, none⟩ = false := (q2.facts 3).2
  have q3 : PS w (((V5).setCell ⟨sb, 2, none⟩ (.int .u64 x3)).setCell ⟨sb, 3, none⟩ (.int .u64 x4)) h g sb rb lo A c zs s4 #[.int .u64 x1, .int .u64 x2, .int .u64 x3, .int .u64 x4, .string ⟨#[]⟩, .string ⟨#[]⟩, .int .i64 0, .int .i64 0, .int .i64 0, .bool false, .slice none 0 0] none 0 0 [] := q2.store 3 _
  go_wp2_with fail
  obtain ⟨V6, hV⟩ : ∃ V, ((V5).setCell ⟨sb, 2, none⟩ (.int .u64 x3)).setCell ⟨sb, 3, none⟩ (.int .u64 x4) = V := ⟨_, rfl⟩
  rw [hV] at q3 ⊢
  clear hV k2 f2 k3 f3 q2 ps5
  have ps6 := q3
  clear q3
  refine (spRText' V6 ps6.rd H5.out).mono ?_
  rintro e V7 ⟨rfl, r7, o7⟩
  have ps7 := ps6.call r7 o7
  clear ps6 r7 o7
  go_wp2_with fail
  refine (spRText' V7 ps7.rd H6.out).mono ?_
  rintro e V8 ⟨rfl, r8, o8⟩
  have ps8 := ps7.call r8 o8
  clear ps7 r8 o8
  have k4 : (V8).cell? ⟨sb, 4, none⟩ = some (.string ⟨#[]⟩) := (ps8.facts 4).1
  have f4 : (V8).frozen? ⟨sb, 4, none⟩ = false := (ps8.facts 4).2
  have q4 : PS w ((V8).setCell ⟨sb, 4, none⟩ (.string t5)) h g sb rb lo A c zs s6 #[.int .u64 x1, .int .u64 x2, .int .u64 x3, .int .u64 x4, .string t5, .string ⟨#[]⟩, .int .i64 0, .int .i64 0, .int .i64 0, .bool false, .slice none 0 0] none 0 0 [] := ps8.store 4 _
  have k5 : ((V8).setCell ⟨sb, 4, none⟩ (.string t5)).cell? ⟨sb, 5, none⟩ = some (.string ⟨#[]⟩) := (q4.facts 5).1
  have f5 : ((V8).setCell ⟨sb, 4, none⟩ (.string t5)).frozen? ⟨sb, 5, none⟩ = false := (q4.facts 5).2
  have q5 : PS w (((V8).setCell ⟨sb, 4, none⟩ (.string t5)).setCell ⟨sb, 5, none⟩ (.string t6)) h g sb rb lo A c zs s6 #[.int .u64 x1, .int .u64 x2, .int .u64 x3, .int .u64 x4, .string t5, .string t6, .int .i64 0, .int .i64 0, .int .i64 0, .bool false, .slice none 0 0] none 0 0 [] := q4.store 5 _
  go_wp2_with fail
  obtain ⟨V9, hV⟩ : ∃ V, ((V8).setCell ⟨sb, 4, none⟩ (.string t5)).setCell ⟨sb, 5, none⟩ (.string t6) = V := ⟨_, rfl⟩
  rw [hV] at q5 ⊢
  clear hV k4 f4 k5 f5 q4 ps8
  have ps9 := q5
  clear q5
  refine (spOne' V9 ps9.rd H7.out).mono ?_
  rintro e V10 ⟨rfl, r10, o10⟩
  have ps10 := ps9.call r10 o10
  clear ps9 r10 o10
  have k6 : (V10).cell? ⟨sb, 6, none⟩ = some (.int .i64 0) := (ps10.facts 6).1
  have f6 : (V10).frozen? ⟨sb, 6, none⟩ = false := (ps10.facts 6).2
  have q6 : PS w ((V10).setCell ⟨sb, 6, none⟩ (.int .i64 x7)) h g sb rb lo A c zs s7 #[.int .u64 x1, .int .u64 x2, .int .u64 x3, .int .u64 x4, .string t5, .string t6, .int .i64 x7, .int .i64 0, .int .i64 0, .bool false, .slice none 0 0] none 0 0 [] := ps10.store 6 _
  go_wp2_with fail
  obtain ⟨V11, hV⟩ : ∃ V, (V10).setCell ⟨sb, 6, none⟩ (.int .i64 x7) = V := ⟨_, rfl⟩
  rw [hV] at q6 ⊢
  clear hV k6 f6  ps10
  have ps11 := q6
  clear q6
  refine (spShort' (by rfl) (by omega) V11 ps11.rd H8.out).mono ?_
  rintro e V12 ⟨rfl, r12, o12⟩
  have ps12 := ps11.call r12 o12
  clear ps11 r12 o12
  go_wp2_with fail
  refine (spShort' (by rfl) (by omega) V12 ps12.rd H9.out).mono ?_
  rintro e V13 ⟨rfl, r13, o13⟩
  have ps13 := ps12.call r13 o13
  clear ps12 r13 o13
  have k7 : (V13).cell? ⟨sb, 7, none⟩ = some (.int .i64 0) := (ps13.facts 7).1
  have f7 : (V13).frozen? ⟨sb, 7, none⟩ = false := (ps13.facts 7).2
  have q7 : PS w ((V13).setCell ⟨sb, 7, none⟩ (.int .i64 x8)) h g sb rb lo A c zs s9 #[.int .u64 x1, .int .u64 x2, .int .u64 x3, .int .u64 x4, .string t5, .string t6, .int .i64 x7, .int .i64 x8, .int .i64 0, .bool false, .slice none 0 0] none 0 0 [] := ps13.store 7 _
  have k8 : ((V13).setCell ⟨sb, 7, none⟩ (.int .i64 x8)).cell? ⟨sb, 8, none⟩ = some (.int .i64 0) := (q7.facts 8).1
  have f8 : ((V13).setCell ⟨sb, 7, none⟩ (.int .i64 x8)).frozen? ⟨sb, 8, none⟩ = false := (q7.facts 8).2
  have q8 : PS w (((V13).setCell ⟨sb, 7, none⟩ (.int .i64 x8)).setCell ⟨sb, 8, none⟩ (.int .i64 x9)) h g sb rb lo A c zs s9 #[.int .u64 x1, .int .u64 x2, .int .u64 x3, .int .u64 x4, .string t5, .string t6, .int .i64 x7, .int .i64 x8, .int .i64 x9, .bool false, .slice none 0 0] none 0 0 [] := q7.store 8 _
  go_wp2_with fail
  obtain ⟨V14, hV⟩ : ∃ V, ((V13).setCell ⟨sb, 7, none⟩ (.int .i64 x8)).setCell ⟨sb, 8, none⟩ (.int .i64 x9) = V := ⟨_, rfl⟩
  rw [hV] at q8 ⊢
  clear hV k7 f7 k8 f8 q7 ps13
  have ps14 := q8
  clear q8
  refine (spOne' V14 ps14.rd H10.out).mono ?_
  rintro e V15 ⟨rfl, r15, o15⟩
  have ps15 := ps14.call r15 o15
  clear ps14 r15 o15
  have k9 : (V15).cell? ⟨sb, 9, none⟩ = some (.bool false) := (ps15.facts 9).1
  have f9 : (V15).frozen? ⟨sb, 9, none⟩ = false := (ps15.facts 9).2
  have q9 : PS w ((V15).setCell ⟨sb, 9, none⟩ (.bool (x10 == 1))) h g sb rb lo A c zs s10 #[.int .u64 x1, .int .u64 x2, .int .u64 x3, .int .u64 x4, .string t5, .string t6, .int .i64 x7, .int .i64 x8, .int .i64 x9, .bool (x10 == 1), .slice none 0 0] none 0 0 [] := ps15.store 9 _
  go_wp2_with fail
  obtain ⟨V16, hV⟩ : ∃ V, (V15).setCell ⟨sb, 9, none⟩ (.bool (x10 == 1)) = V := ⟨_, rfl⟩
  rw [hV] at q9 ⊢
  clear hV k9 f9  ps15
  have ps16 := q9
  clear q9
  refine (spShort' (by rfl) (by omega) V16 ps16.rd H11.out).mono ?_
  rintro e V17 ⟨rfl, r17, o17⟩
  have ps17 := ps16.call r17 o17
  clear ps16 r17 o17
  obtain ⟨fin, hfin⟩ : ∃ fin, prTags zs x11 [] s11 = fin := ⟨_, rfl⟩
  have HFIN := Lib.hid hfin
  clear hfin
  have p0 : PS w V17 h g sb rb lo A c zs s11 (spC sp none 0 0) none 0 0 [] := by rw [← HSP.out]; exact ps17
  clear ps17
  go_wp2_with fail
  go_loopw [47] (fun iv_ wr => ∃ (i : Nat) (acc : List Tg) (st : RS) (At : Option Addr) (ct : Nat), i ≤ x11 ∧ iv_ = .int .i64 i ∧ PS w wr h g sb rb lo A c zs st (spC sp At i ct) At i ct acc ∧ prTags zs (x11 - i) acc st = fin) (fun i _ => x11 - (intOf i).toNat)
  case atStart => exact ⟨0, [], s11, none, 0, by omega, rfl, p0, HFIN.out⟩
  case round =>
    obtain ⟨i, acc, st, At, ct, hi, rfl, p, htg⟩ := hrel
    clear p0
    have HTG := Lib.hid htg
    clear htg
    by_cases hlt : i < x11
    · have hlt' : (i : Int) < (x11 : Int) := by omega
      obtain ⟨u1, st1, e1⟩ : ∃ x s, rText zs st = (x, s) := ⟨_, _, rfl⟩
      obtain ⟨u2, st2, e2⟩ : ∃ x s, rText zs st1 = (x, s) := ⟨_, _, rfl⟩
      have hnext : prTags zs (x11 - (i + 1)) (acc ++ [⟨u1, u2⟩]) st2 = fin := by
        rw [← HTG.out, show x11 - i = (x11 - (i + 1)) + 1 from by omega, prTags, e1]
        simp only
        rw [e2]
      have E1 := Lib.hid e1
      have E2 := Lib.hid e2
      have HNX := Lib.hid hnext
      clear e1 e2 hnext
      have k10 : wr.cell? ⟨sb, 10, none⟩ = some (.slice At i ct) := (p.facts 10).1
      go_wp2_with fail
      have k10d : wr.drew.cell? ⟨sb, 10, none⟩ = some (.slice At i ct) := k10
      go_region_with
        (first
          | (go_at_call 79
             refine (spRText' _ p.drew.rd E1.out).mono ?_
             rintro e w5 ⟨rfl, r5, o5⟩
             have p5 := p.drew.call r5 o5
             have k10' : w5.cell? ⟨sb, 10, none⟩ = some (.slice At i ct) := (p5.facts 10).1)
          | (go_at_call 79
             refine (spRText' _ p5.rd E2.out).mono ?_
             rintro e w6 ⟨rfl, r6, o6⟩
             have p6 := p5.call r6 o6
             have k10b : w6.cell? ⟨sb, 10, none⟩ = some (.slice At i ct) := (p6.facts 10).1
             have p6a := p6.below ((Below.refl _ w6).alloc (Nat.le_refl _) (.cells #[.string u1, .string u2] 97))
             have k10e := (p6a.facts 10).1
             obtain ⟨A7, c7, w7, hrun, happ⟩ := run_appT _ lo (.slice At i ct) i acc p6a.own _ _ 1 1 [⟨u1, u2⟩] rfl (Rd.lit w6 _ _) (by omega) (by have := p6.hlo; simp; omega)
             have p7 := p6a.app happ
             have k10c : w7.cell? ⟨sb, 10, none⟩ = some (.slice At i ct) := (p7.facts 10).1
             have f10 : w7.frozen? ⟨sb, 10, none⟩ = false := (p7.facts 10).2)
          | fail)
      all_goals
        clear k10 k10d k10' k10b k10e hrun
        have p8 : PS w (w7.setCell ⟨sb, 10, none⟩ (.slice A7 (i + 1) c7)) h g sb rb lo A c zs st2 (spC sp A7 (i + 1) c7) A7 (i + 1) c7 (acc ++ [⟨u1, u2⟩]) := p7.store 10 _
        clear p7 happ k10c f10 p6a p6 p5 p
        go_wp2
        go_roundw
        case rel => exact ⟨i + 1, acc ++ [⟨u1, u2⟩], st2, A7, c7, by omega, by go_num, p8, HNX.out⟩
        case measure => simp [intOf]; omega
    · have hlt' : decide ((i : Int) < (x11 : Int)) = false := by simp; omega
      obtain rfl : i = x11 := by omega
      have hfin := HTG.out
      rw [Nat.sub_self, prTags] at hfin
      obtain ⟨s, hs⟩ : ∃ s : Sp, { sp with tags := acc } = s := ⟨_, rfl⟩
      have hall := HALL.out
      rw [HFIN.out, ← hfin] at hall
      simp only at hall
      rw [hs] at hall
      have herr : prErr zs = prErrOf zs s st := by rw [prErr, hall]
      have hst : s.tags = acc := by rw [← hs]
      have q : PS w wr h g sb rb lo A c zs st (spC s At i ct) At i ct acc := by rw [← hs]; exact p
      have hlen : s.tags.length = i := by rw [hst]; exact p.len
      clear p hs hfin
      have HERR := Lib.hid herr
      have HST := Lib.hid hst
      have HLEN := Lib.hid hlen
      have HAL := Lib.hid hall
      clear herr hst hlen hall HALL HFIN HTG HSP
      have c0 : wr.cell? ⟨h, 0, none⟩ = some (.pointer (some ⟨g, 0, none⟩)) := q.rd.blk.cell 0
      have c1 : wr.cell? ⟨h, 1, none⟩ = some (.bool st.bad) := q.rd.blk.cell 1
      have hE := Lib.hid (rdrErr wr q.rd.rdr)
      by_cases he : st.e = 0
      · have he1 : ((st.e : Int) == 0) = true := by rw [beq_iff_eq]; omega
        cases hbad : st.bad with
        | true =>
          rw [hbad] at c1
          have BKW := q.rs
          go_wp2_with (first
            | (go_at_call 82; refine hE.out.mono ?_; rintro en w' ⟨rfl, hw⟩; rw [hw]; clear hw w') | (refine wpList_store_row rfl 43 (.tmp 2) (.tmp 86) rfl rb zspC rfl rfl 43 zspC BKW (by rfl) rfl zspC_one ?_))
          try simp only [Exit.inBlock, Exit.then]
          refine bodyPost_ret (results_cell_row_tmp rfl _ _ rb 43 zspC _ rfl (BKW.row zspC) Try.underlying43 rfl (by rfl)) rfl ?_
          exact parsePost_bad (k := 4) (HERR.out.trans (by rw [prErrOf, if_neg (by omega), if_pos hbad])) (by omega) (q.bel) (q.hr.1) rfl
        | false =>
          rw [hbad] at c1
          have hEnd := Lib.hid (rdrEnd wr q.rd.rdr q.rd.err)
          by_cases hp : st.p < zs.length
          · rw [if_neg (by omega), if_pos hp] at hEnd
            have BKW := q.rs
            go_wp2_with (first
              | (go_at_call 82; refine hE.out.mono ?_; rintro en w' ⟨rfl, hw⟩; rw [hw]; clear hw w') | (go_at_call 83; refine hEnd.out.mono ?_; rintro en w' ⟨rfl, nd, hw⟩; rw [hw]; clear hw w') | (refine wpList_store_row rfl 43 (.tmp 2) (.tmp 86) rfl rb zspC rfl rfl 43 zspC BKW (by rfl) rfl zspC_one ?_))
            try simp only [Exit.inBlock, Exit.then]
            refine bodyPost_ret (results_cell_row_tmp rfl _ _ rb 43 zspC _ rfl (BKW.row zspC) Try.underlying43 rfl (by rfl)) rfl ?_
            exact parsePost_bad (k := 4) (HERR.out.trans (by rw [prErrOf, if_neg (by omega), if_neg (by rw [hbad]; simp), if_pos hp])) (by omega) (below_drewN q.bel _) (q.hr.1) rfl
          · rw [if_neg (by omega), if_neg hp] at hEnd
            have hchk := fun nd => Lib.hid (spCheck (c := ct) s (wr.drewN nd) (A := At) (n := i) (B := wr.heap.size) (by rw [HST.out]; exact Rd.drewN (Rd.of_own q.own) nd) HLEN.out (Nat.le_refl _) (by omega))
            obtain ⟨k, hk⟩ : ∃ k, spChk s = k := ⟨_, rfl⟩
            rw [hk] at hchk
            have hpe : prErr zs = k := HERR.out.trans (by rw [prErrOf, if_neg (by omega), if_neg (by rw [hbad]; simp), if_neg hp, hk])
            have HPE := Lib.hid hpe
            clear hk hpe
            have kb := fun nd => q.sp.drewN nd
            go_wp2_with (first
              | (go_at_call 82; refine hE.out.mono ?_; rintro en w' ⟨rfl, hw⟩; rw [hw]; clear hw w')
              | (go_at_call 83; refine hEnd.out.mono ?_; rintro en w' ⟨rfl, nd, hw⟩; rw [hw]; clear hw w')
              | (refine wpList_load_row rfl 43 (.tmp 5) rfl sb rfl 43 (spC s At i ct) (0, 0) _ (kb _) Try.underlying43 rfl (by rfl) ?_))
            refine (hchk _).out.mono ?_
            rintro en w9 ⟨rfl, hb9⟩
            have q9 := (q.below (below_drewN (Below.refl wr.heap.size wr) nd)).below hb9
            have BKW := q9.rs
            have BKS := q9.sp
            by_cases hk0 : k = 0
            · subst hk0
              go_wp2_with (first
                | (refine wpList_load_row rfl 43 (.tmp 5) rfl sb rfl 43 (spC s At i ct) (0, 0) _ BKS Try.underlying43 rfl (by rfl) ?_)
                | (refine wpList_store_row rfl 43 (.tmp 2) (.tmp 88) rfl rb (spC s At i ct) rfl rfl 43 zspC BKW (by rfl) rfl (spC_one _ _ _ _) ?_))
              try simp only [Exit.inBlock, Exit.then]
              refine bodyPost_ret (results_cell_row_tmp rfl _ _ rb 43 (spC s At i ct) _ rfl (BKW.row _) Try.underlying43 rfl (by rfl)) rfl ?_
              exact q9.good HPE.out HAL.out HLEN.out HST.out HRB.out
            · have hk1 : ((k : Int) != 0) = true := by rw [bne_iff_ne]; omega
              have hk2 : ((k : Int) == 0) = false := by rw [beq_eq_false_iff_ne]; omega
              go_wp2_with (first
                | (refine wpList_store_row rfl 43 (.tmp 2) (.tmp 86) rfl rb zspC rfl rfl 43 zspC BKW (by rfl) rfl zspC_one ?_))
              try simp only [Exit.inBlock, Exit.then]
              refine bodyPost_ret (results_cell_row_tmp rfl _ _ rb 43 zspC _ rfl (BKW.row zspC) Try.underlying43 rfl (by rfl)) rfl ?_
              exact parsePost_bad HPE.out hk0 q9.bel (q9.hr.1) rfl
      · have he1 : ((st.e : Int) == 0) = false := by rw [beq_eq_false_iff_ne]; omega
        have he2 : ((st.e : Int) != 0) = true := by rw [bne_iff_ne]; omega
        have BKW := q.rs
        go_wp2_with (first
          | (go_at_call 82; refine hE.out.mono ?_; rintro en w' ⟨rfl, hw⟩; rw [hw]; clear hw w') | (refine wpList_store_row rfl 43 (.tmp 2) (.tmp 86) rfl rb zspC rfl rfl 43 zspC BKW (by rfl) rfl zspC_one ?_))
        try simp only [Exit.inBlock, Exit.then]
        refine bodyPost_ret (results_cell_row_tmp rfl _ _ rb 43 zspC _ rfl (BKW.row zspC) Try.underlying43 rfl (by rfl)) rfl ?_
        exact parsePost_bad (HERR.out.trans (by rw [prErrOf, if_pos he])) (he) (q.bel) (q.hr.1) rfl
end Go.Proofs.Ytlamebbolioljaa

/- Spans: the plain law: what is put into bytes is read again, and nothing else is. -/
namespace Go.Proofs.Ytlamebbolioljaa
open Go.RowKit

theorem ordVal_go : ∀ (l : List Int) (a : Nat), l.foldl (fun a c => a * 256 + c.toNat) a = a * 256 ^ l.length + ordVal l := by
  intro l
  induction l with
  | nil => intro a; simp [ordVal]
  | cons c l ih =>
    intro a
    rw [ordVal, List.foldl_cons, List.foldl_cons, ih, ih, List.length_cons, Nat.pow_succ, Nat.zero_mul, Nat.zero_add, Nat.add_mul, Nat.mul_assoc, Nat.mul_comm 256 (256 ^ l.length), Nat.add_assoc]
theorem ordVal_cons (c : Int) (l : List Int) : ordVal (c :: l) = c.toNat * 256 ^ l.length + ordVal l := by
  rw [ordVal, List.foldl_cons, Nat.zero_mul, Nat.zero_add, ordVal_go]
theorem ordTo_mod (x y : Nat) : ∀ k, x % 256 ^ k = y % 256 ^ k → ordTo x k = ordTo y k := by
  intro k
  induction k generalizing x y with
  | zero => intro _; rfl
  | succ k ih =>
    intro h
    have hp : 0 < 256 ^ k := Nat.pow_pos (by omega)
    have h1 : x / 256 ^ k % 256 = y / 256 ^ k % 256 := by
      have e1 := Nat.mod_mul (x := x) (a := 256 ^ k) (b := 256)
      have e2 := Nat.mod_mul (x := y) (a := 256 ^ k) (b := 256)
      rw [Nat.pow_succ, e1, e2] at h
      have l1 := Nat.mod_lt x hp
      have l2 := Nat.mod_lt y hp
      have d1 : (x % 256 ^ k + 256 ^ k * (x / 256 ^ k % 256)) / 256 ^ k = x / 256 ^ k % 256 := by rw [Nat.add_mul_div_left _ _ hp, Nat.div_eq_of_lt l1, Nat.zero_add]
      have d2 : (y % 256 ^ k + 256 ^ k * (y / 256 ^ k % 256)) / 256 ^ k = y / 256 ^ k % 256 := by rw [Nat.add_mul_div_left _ _ hp, Nat.div_eq_of_lt l2, Nat.zero_add]
      rw [← d1, ← d2, h]
    have h2 : x % 256 ^ k = y % 256 ^ k := by
      have := congrArg (· % 256 ^ k) h
      simpa [Nat.pow_succ, Nat.mod_mul_right_mod] using this
    rw [ordTo, ordTo, h1, ih x y h2]
theorem ordTo_back : ∀ (l : List Int), Byt l → ordTo (ordVal l) l.length = l := by
  intro l
  induction l with
  | nil => intro _; rfl
  | cons c l ih =>
    intro hb
    have h1 := ih (fun x hx => hb x (by simp [hx]))
    have hc := hb c (by simp)
    have hv := ordVal_lt l.length l (fun x hx => hb x (by simp [hx])) rfl
    have hp : 0 < 256 ^ l.length := Nat.pow_pos (by omega)
    rw [List.length_cons, ordVal_cons, ordTo]
    congr 1
    · rw [Nat.mul_comm, Nat.mul_add_div hp, Nat.div_eq_of_lt hv]
      omega
    · have : ordTo (c.toNat * 256 ^ l.length + ordVal l) l.length = ordTo (ordVal l) l.length := ordTo_mod _ _ _ (by rw [Nat.add_comm, Nat.add_mul_mod_self_right])
      exact this.trans h1
/-- At place p of zs stands l, and nothing else. -/
structure Stands (zs : List Int) (p : Nat) (l : List Int) : Prop where
  le : p ≤ zs.length
  eq : zs.drop p = l
theorem Stands.skip {zs a b : List Int} {p : Nat} (h : Stands zs p (a ++ b)) : Stands zs (p + a.length) b := by
  have hl := congrArg List.length h.eq
  rw [List.length_drop, List.length_append] at hl
  refine ⟨by have := h.le; omega, ?_⟩
  rw [← List.drop_drop, h.eq, List.drop_left]
theorem Stands.len {zs l : List Int} {p : Nat} (h : Stands zs p l) : zs.length - p = l.length := by
  rw [← List.length_drop, h.eq]
theorem Stands.self {zs : List Int} {p : Nat} (h : p ≤ zs.length) : Stands zs p (zs.drop p) := ⟨h, rfl⟩

/-! ### forward -/
theorem rdFix_stands {zs a t : List Int} {p n : Nat} (h : Stands zs p (a ++ t)) (hn : a.length = n) : rdFix zs p 0 n = (a, p + n, 0) := by
  have := h.len
  rw [List.length_append] at this
  rw [rdFix, if_neg (by simp), if_neg (by omega), h.eq, List.take_left' hn]
theorem rEight_stands {zs t : List Int} {p x : Nat} (h : Stands zs p (ordEnc x ++ t)) (hx : x < 18446744073709551616) : rEight zs ⟨p, 0, false⟩ = (x, ⟨p + 8, 0, false⟩) := by
  have hv : ordVal (ordEnc x) = x := by
    rw [ordEnc, ordTo_val, show (256 : Nat) ^ 8 = 18446744073709551616 from by decide, Nat.mod_eq_of_lt hx]
  rw [rEight, if_neg (by simp [RS.stop])]
  simp only [rdFix_stands h (ordEnc_len x)]
  rw [if_neg (by rw [ordEnc_len]; omega), hv]
theorem rText_stands {zs t : List Int} {p : Nat} {s : ByteArray} (h : Stands zs p (pie s ++ t)) (hs : s.size ≤ 1048576) : rText zs ⟨p, 0, false⟩ = (s, ⟨p + (pie s).length, 0, false⟩) := by
  have h1 : Stands zs p (numEnc s.size ++ (nums s ++ t)) := by rw [← List.append_assoc]; exact h
  have h2 := h1.skip
  have hso : shortOf (zs.drop p) = (s.size, (numEnc s.size).length, 0) := by rw [h1.eq]; exact shortOf_num _ _ (by omega)
  have hl := h2.len
  rw [List.length_append, nums_len] at hl
  have hp : rdPiece zs p 0 = (nums s, p + (numEnc s.size).length + s.size, 0) := by
    rw [rdPiece, if_neg (by simp), hso]
    simp only
    rw [if_neg (by simp), if_neg (by omega), if_neg (by omega), h2.eq, List.take_left' (nums_len s)]
  rw [rText, if_neg (by simp [RS.stop])]
  simp only [hp, strOf_nums]
  rw [pie, List.length_append, nums_len, Nat.add_assoc]
theorem rOne_stands {zs t : List Int} {p : Nat} {x most : Int} (h : Stands zs p ([x] ++ t)) : rOne most zs ⟨p, 0, false⟩ = (x, ⟨p + 1, 0, decide (most < x)⟩) := by
  rw [rOne, if_neg (by simp [RS.stop])]
  simp only [rdFix_stands h (n := 1) rfl]
theorem rShort_stands {zs t : List Int} {p x most : Nat} (h : Stands zs p (numEnc x ++ t)) (hx : x < 18446744073709551616) (hm : x ≤ most) : rShort most zs ⟨p, 0, false⟩ = (x, ⟨p + (numEnc x).length, 0, false⟩) := by
  have hso : shortOf (zs.drop p) = (x, (numEnc x).length, 0) := by rw [h.eq]; exact shortOf_num _ _ hx
  have hn : rdNum zs p 0 = (x, p + (numEnc x).length, 0) := by rw [rdNum, if_neg (by simp), hso]
  rw [rShort, if_neg (by simp [RS.stop])]
  simp only [hn]
  rw [if_neg (by omega)]
theorem prTags_stands {zs t : List Int} : ∀ (l acc : List Tg) (p : Nat), Stands zs p (l.flatMap tgEnc ++ t) → (∀ x ∈ l, x.key.size ≤ 128 ∧ x.val.size ≤ 128) → prTags zs l.length acc ⟨p, 0, false⟩ = (acc ++ l, ⟨p + (l.flatMap tgEnc).length, 0, false⟩) := by
  intro l
  induction l with
  | nil => intro acc p _ _; simp [prTags]
  | cons x l ih =>
    intro acc p h hs
    have hx := hs x (by simp)
    have e : (x :: l).flatMap tgEnc ++ t = pie x.key ++ (pie x.val ++ (l.flatMap tgEnc ++ t)) := by simp [tgEnc, List.flatMap_cons]
    rw [e] at h
    have h2 := h.skip
    have h3 := h2.skip
    rw [List.length_cons, prTags, rText_stands h (by omega)]
    simp only
    rw [rText_stands h2 (by omega)]
    simp only
    rw [ih _ _ h3 (fun y hy => hs y (by simp [hy]))]
    simp only [List.append_assoc, List.cons_append, List.nil_append, Prod.mk.injEq, true_and, RS.mk.injEq, and_true]
    rw [List.flatMap_cons, List.length_append, tgEnc, List.length_append]
    omega
/-- What is known of a span that may be. -/
theorem chk_facts {s : Sp} (h : spChk s = 0) : s.service.size ≤ 128 ∧ s.name.size ≤ 128 ∧ s.tags.length ≤ 16 ∧ (∀ t ∈ s.tags, t.key.size ≤ 128 ∧ t.val.size ≤ 128) ∧ 0 ≤ s.kind ∧ s.kind ≤ 5 ∧ 0 ≤ s.start ∧ s.start ≤ 4611686018427387903 ∧ 0 ≤ s.length ∧ s.length ≤ 4611686018427387903 := by
  have hlong : longB s = false := by
    cases h' : longB s with
    | false => rfl
    | true => rw [spChk, if_pos h'] at h; cases h
  have hhead : headB s = true := by
    cases h' : headB s with
    | true => rfl
    | false => rw [spChk, if_neg (by rw [hlong]; simp), h'] at h; simp at h
  simp only [headB, Bool.and_eq_true, Bool.or_eq_true, decide_eq_true_eq, ne_eq] at hhead
  obtain ⟨⟨⟨⟨⟨⟨⟨⟨⟨h0, h1⟩, h2⟩, h3⟩, h4⟩, h5⟩, h6⟩, h7⟩, h8⟩, h9⟩ := hhead
  simp only [longB, Bool.or_eq_false_iff, decide_eq_false_iff_not] at hlong
  obtain ⟨⟨⟨l1, l2⟩, l3⟩, l4⟩ := hlong
  refine ⟨by omega, by omega, by omega, fun t ht => ?_, h4, h5, h6, h8, h7, by omega⟩
  have := List.any_eq_false.1 l4 t ht
  simp [tgLong] at this
  exact this
theorem prAll_stands {s : Sp} (rest : List Int) (hc : spChk s = 0) (hu : s.U64) : prAll (spEnc s ++ rest) = (s, ⟨(spEnc s).length, 0, false⟩) := by
  obtain ⟨f1, f2, f3, f4, f5, f6, f7, f8, f9, f10⟩ := chk_facts hc
  obtain ⟨u1, u2, u3, u4⟩ := hu
  obtain ⟨fv, hfv⟩ : ∃ fv : Int, (if s.fails = true then 1 else 0) = fv := ⟨_, rfl⟩
  have hfb : (fv == 1) = s.fails ∧ fv ≤ 1 := by rw [← hfv]; cases s.fails <;> simp
  have hk : s.kind % 256 = s.kind := by omega
  have e : spEnc s ++ rest = ordEnc s.hi ++ (ordEnc s.lo ++ (ordEnc s.id ++ (ordEnc s.parent ++ (pie s.service ++ (pie s.name ++ ([s.kind] ++ (numEnc s.start.toNat ++ (numEnc s.length.toNat ++ ([fv] ++ (numEnc s.tags.length ++ (s.tags.flatMap tgEnc ++ rest))))))))))) := by
    rw [spEnc, spHead, hk, hfv]
    simp
  obtain ⟨zs, hzs⟩ : ∃ zs, spEnc s ++ rest = zs := ⟨_, rfl⟩
  rw [hzs]
  have s0 : Stands zs 0 (ordEnc s.hi ++ (ordEnc s.lo ++ (ordEnc s.id ++ (ordEnc s.parent ++ (pie s.service ++ (pie s.name ++ ([s.kind] ++ (numEnc s.start.toNat ++ (numEnc s.length.toNat ++ ([fv] ++ (numEnc s.tags.length ++ (s.tags.flatMap tgEnc ++ rest)))))))))))) := ⟨by omega, by rw [List.drop_zero, ← hzs, e]⟩
  have s1 := s0.skip
  rw [ordEnc_len] at s1
  have s2 := s1.skip
  rw [ordEnc_len] at s2
  have s3 := s2.skip
  rw [ordEnc_len] at s3
  have s4 := s3.skip
  rw [ordEnc_len] at s4
  have s5 := s4.skip
  have s6 := s5.skip
  have s7 := s6.skip
  rw [show [s.kind].length = 1 from rfl] at s7
  have s8 := s7.skip
  have s9 := s8.skip
  have s10 := s9.skip
  rw [show [fv].length = 1 from rfl] at s10
  have s11 := s10.skip
  have r0 := rEight_stands s0 u1
  have r1 := rEight_stands s1 u2
  have r2 := rEight_stands s2 u3
  have r3 := rEight_stands s3 u4
  have r4 := rText_stands s4 (by omega)
  have r5 := rText_stands s5 (by omega)
  have r6 := rOne_stands (most := 255) s6
  rw [decide_eq_false (by omega)] at r6
  have r7 := rShort_stands (most := 4611686018427387903) s7 (by omega) (by omega)
  have r8 := rShort_stands (most := 4611686018427387903) s8 (by omega) (by omega)
  have r9 := rOne_stands (most := 1) s9
  rw [decide_eq_false (by omega)] at r9
  have r10 := rShort_stands (most := 16) s10 (by omega) (by omega)
  have r11 := prTags_stands s.tags [] _ s11 f4
  have hlen : (spEnc s).length = 0 + 8 + 8 + 8 + 8 + (pie s.service).length + (pie s.name).length + 1 + (numEnc s.start.toNat).length + (numEnc s.length.toNat).length + 1 + (numEnc s.tags.length).length + (s.tags.flatMap tgEnc).length := by
    rw [spEnc, spHead]
    simp only [List.flatMap_cons, List.flatMap_nil, List.length_append, List.length_cons, List.length_nil, ordEnc_len]
    omega
  have hst : ((s.start.toNat : Nat) : Int) = s.start := by omega
  have hln : ((s.length.toNat : Nat) : Int) = s.length := by omega
  have hhead : prHead zs = (⟨s.hi, s.lo, s.id, s.parent, s.service, s.name, s.kind, s.start, s.length, s.fails, []⟩, s.tags.length, ⟨0 + 8 + 8 + 8 + 8 + (pie s.service).length + (pie s.name).length + 1 + (numEnc s.start.toNat).length + (numEnc s.length.toNat).length + 1 + (numEnc s.tags.length).length, 0, false⟩) := by
    simp only [prHead, r0, r1, r2, r3, r4, r5, r6, r7, r8, r9, r10, hst, hln, hfb.1]
  rw [prAll, hhead]
  simp only
  rw [r11, hlen]
  rfl
theorem prErr_stands {s : Sp} (rest : List Int) (hc : spChk s = 0) (hu : s.U64) : prErr (spEnc s ++ rest) = if rest = [] then 0 else 4 := by
  rw [prErr, prAll_stands rest hc hu, prErrOf]
  simp only
  rw [if_neg (by simp), if_neg (by simp), List.length_append]
  by_cases h : rest = []
  · subst h
    rw [if_neg (by simp), if_pos rfl, hc]
  · have : 0 < rest.length := List.length_pos_iff.2 h
    rw [if_pos (by omega), if_neg h]
theorem prSp_stands {s : Sp} (hc : spChk s = 0) (hu : s.U64) : prErr (spEnc s) = 0 ∧ prSp (spEnc s) = s := by
  have h1 := prErr_stands [] hc hu
  have h2 := prAll_stands [] hc hu
  rw [List.append_nil] at h1 h2
  rw [if_pos rfl] at h1
  exact ⟨h1, by rw [prSp, if_pos h1, h2]⟩
end Go.Proofs.Ytlamebbolioljaa

/- Adjusted spans: schema.ReadSpan of what schema.Span told. -/
namespace Go.Proofs.Ytlamebbolioljaa
open Go.RowKit
theorem loadSp_shut2 (a : Addr) : loadVar 43 a = loadK 43 a := rfl
theorem loadAd_shut2 (a : Addr) : loadVar 45 a = loadK 45 a := rfl
attribute [local go_sem ↓] loadSp_shut2 loadAd_shut2

theorem shI_wrap {x : Int} (h0 : -9223372036854775808 ≤ x) (h1 : x ≤ 9223372036854775807) : IntKind.i64.wrap (IntKind.u64.wrap ((shU x : Int) - 9223372036854775808)) = x := by
  rw [IntKind.wrap_i64, IntKind.wrap_u64]
  unfold shU
  omega
theorem spEnc_bytK (s : Sp) : Byt (spEnc s) := by
  have flat : ∀ {α : Type} {f : α → List Int} (l : List α), (∀ x ∈ l, Byt (f x)) → Byt (l.flatMap f) := fun l h y hy => by
    obtain ⟨x, hx, hy⟩ := List.mem_flatMap.1 hy
    exact h x hx y hy
  have one : ∀ {x : Int}, 0 ≤ x → x ≤ 255 → Byt [x] := fun h0 h1 y hy => by simp at hy; omega
  have pb : ∀ s : ByteArray, Byt (pie s) := fun s => (numEnc_byt _).append (nums_byt s)
  unfold spEnc spHead
  refine (((((flat _ fun x _ => ordEnc_byt x).append ((pb _).append (pb _))).append (one (by omega) (by omega))).append ((numEnc_byt _).append (numEnc_byt _))).append ?_ |>.append (numEnc_byt _)).append (flat _ fun t _ => (pb _).append (pb _))
  split
  · exact one (by omega) (by omega)
  · exact one (by omega) (by omega)
abbrev zadC : Array Value := #[.int .u64 0, .int .u64 0, .int .u64 0, .int .u64 0, .string ⟨#[]⟩, .string ⟨#[]⟩, .int .i64 0, .int .i64 0, .int .i64 0, .bool false, .slice none 0 0, .int .u64 0, .int .i64 0, .int .i64 0]
theorem adC_one (a : Ad) (A : Option Addr) (n c : Nat) : (adC a A n c).all (·.oneCell') = true := by simp [Value.oneCell']
set_option maxRecDepth 100000 in
theorem loadK_ad {w : World} {g n c : Nat} {a : Ad} {A : Option Addr} (h : Bk w g 45 (adC a A n c)) : (loadK 45 ⟨g, 0, none⟩).run Try.prog w = .ok (adV a A n c) w :=
  run_loadVar_row w g _ _ (adC a A n c) (0, 0) _ h Try.underlying45 rfl (by rfl)
set_option maxRecDepth 100000 in
theorem loadK_spK {w : World} {g n c : Nat} {s : Sp} {A : Option Addr} (h : Bk w g 43 (spC s A n c)) : (loadK 43 ⟨g, 0, none⟩).run Try.prog w = .ok (spV s A n c) w :=
  run_loadVar_row w g _ _ (spC s A n c) (0, 0) _ h Try.underlying43 rfl (by rfl)
def AdPost (w : World) (a : Ad) (e : Ending) (w' : World) : Prop :=
  ∃ At ct, e = .returned (.tuple #[adV a At a.s.tags.length ct, .int .i64 0]) ∧ RbT w' w'.heap.size At a.s.tags ∧ Below w.heap.size w w' ∧ a.s.tags.length ≤ ct
set_option maxRecDepth 100000 in
set_option maxHeartbeats 4000000 in
theorem scReadSpan {A0 : Option Addr} {c0 B L : Nat} (a : Ad) (w : World) (ha : Rb w B A0 (adEnc a)) (hB : B ≤ w.heap.size) (hok : a.Ok) (hc : adChk a = 0) (hL : (adEnc a).length = L) (hcap : L ≤ c0) :
    Calls Try.prog 25 #[.slice A0 L c0] w (AdPost w a) := by
  have hsc : spChk a.s = 0 := by
    unfold adChk at hc
    by_cases h : spChk a.s ≠ 0
    · rw [if_pos h] at hc; exact absurd hc h
    · omega
  have hfl : 0 ≤ a.flag ∧ a.flag ≤ 2 := by
    unfold adChk at hc
    rw [if_neg (by omega)] at hc
    by_cases h : a.flag < 0 ∨ 2 < a.flag
    · rw [if_pos h] at hc; omega
    · omega
  obtain ⟨hp1, hp2⟩ := prSp_stands hsc hok.1
  have hsm := spEnc_small hsc
  have hbyt := spEnc_bytK a.s
  obtain ⟨e0, he0⟩ : ∃ e0, spEnc a.s = e0 := ⟨_, rfl⟩
  obtain ⟨y, hy⟩ : ∃ y, shU a.shift = y := ⟨_, rfl⟩
  have hyl : y < 18446744073709551616 := by rw [← hy]; exact shU_lt hok.2.2.2
  have hsh := shI_wrap hok.2.2.1 hok.2.2.2
  rw [hy] at hsh
  have hzs : adEnc a = e0 ++ (ordEnc a.up ++ (ordEnc y ++ [a.flag])) := by
    rw [adEnc, he0, hy, show a.flag % 256 = a.flag from by omega]
    simp [itsEnc, itEnc]
  rw [he0] at hp1 hp2 hsm hbyt
  rw [hzs] at ha hL
  obtain ⟨n, hn⟩ : ∃ n, e0.length = n := ⟨_, rfl⟩
  have hLn : L = n + 17 := by rw [← hL]; simp [ordEnc_len]; omega
  subst hLn
  obtain ⟨x0, hx0⟩ : ∃ x0, (e0 ++ (ordEnc a.up ++ (ordEnc y ++ [a.flag])))[0]? = some x0 := ⟨_, List.getElem?_eq_getElem (by rw [hL]; omega)⟩
  obtain ⟨b, o, rfl, hbb, -⟩ := Rd.get ha (bv_get hx0)
  have hb0 : Below w.heap.size w (w.alloc (.cells zadC 45)) := (Below.refl _ w).alloc (Nat.le_refl _) _
  have ha1 := (ha.alloc hB (.cells zadC 45))
  have bkr := Bk.new w 45 zadC
  have hs1 : (w.alloc (.cells zadC 45)).heap.size = w.heap.size + 1 := World.size_alloc w _
  obtain ⟨w1, hw1⟩ : ∃ w1, w.alloc (.cells zadC 45) = w1 := ⟨_, rfl⟩
  rw [hw1] at hb0 ha1 bkr hs1
  obtain ⟨rb, hrb⟩ : ∃ rb, w.heap.size = rb := ⟨_, rfl⟩
  rw [hrb] at bkr hs1
  have hBr : B ≤ rb := by omega
  have HW := Lib.hid hw1
  have HG := Lib.hid hrb
  have HB0 := Lib.hid hb0
  have hte : (e0 ++ (ordEnc a.up ++ (ordEnc y ++ [a.flag]))).take n = e0 := by rw [← hn]; exact List.take_left
  have hr0 : Rb w1 B (some ⟨b, o, none⟩) e0 := by have h := Rb.take ha1 n; rwa [hte] at h
  have cp := spParse (c0 := c0) w1 hr0 (show B ≤ w1.heap.size by omega) hbyt (by omega) (fun h => by cases h) hn
  unfold ParsePost at cp
  rw [hp1, hp2] at cp
  have CP := Lib.hid cp
  have hd0 : (e0 ++ (ordEnc a.up ++ (ordEnc y ++ [a.flag]))).drop n = ordEnc a.up ++ (ordEnc y ++ [a.flag]) := by rw [← hn]; exact List.drop_left
  have hd1 : (e0 ++ (ordEnc a.up ++ (ordEnc y ++ [a.flag]))).drop (n + 8) = ordEnc y ++ [a.flag] := by
    rw [← List.drop_drop, hd0, ← ordEnc_len a.up]
    exact List.drop_left
  have hd2 : (e0 ++ (ordEnc a.up ++ (ordEnc y ++ [a.flag])))[n + 16]? = some a.flag := by
    have h := List.getElem?_drop (xs := e0 ++ (ordEnc a.up ++ (ordEnc y ++ [a.flag]))) (i := n + 8) (j := 8)
    rw [hd1] at h
    rw [show n + 16 = n + 8 + 8 from by omega, ← h, List.getElem?_append_right (by rw [ordEnc_len]; omega), ordEnc_len]
    rfl
  have hn' : n ≤ 100000 := by omega
  have HD0 := Lib.hid hd0
  have HD1 := Lib.hid hd1
  have HD2 := Lib.hid hd2
  have HL := Lib.hid hL
  have HSH := Lib.hid hsh
  have HBY : Hid (Byt (e0 ++ (ordEnc a.up ++ (ordEnc y ++ [a.flag])))) := Lib.hid (hbyt.append ((ordEnc_byt _).append ((ordEnc_byt _).append (fun z hz => by simp at hz; omega))))
  obtain ⟨zs, hzz⟩ : ∃ zs, e0 ++ (ordEnc a.up ++ (ordEnc y ++ [a.flag])) = zs := ⟨_, rfl⟩
  rw [hzz] at ha1 HD0 HD1 HD2 HL HBY
  clear hw1 hrb hb0 ha cp hd0 hd1 hd2 hte hr0 hp1 hp2 hsm hbyt he0 hy hzs hL hsh hx0 hc hsc hn hzz
  have hsl1 : ∀ W, (Instr.slice 27 (.slice (some ⟨b, o, none⟩) (n + 17) c0) (some (.int .i64 (n : Nat))) none none).run Try.prog W = .ok (.slice (offA (some ⟨b, o, none⟩) c0 n) 17 (c0 - n)) W := fun W => by
    have h := run_slK W (some ⟨b, o, none⟩) (n + 17) c0 .i64 n (by omega) (by omega)
    rw [h]
    congr 2
    omega
  have hsl2 : ∀ W, (Instr.slice 27 (.slice (some ⟨b, o, none⟩) (n + 17) c0) (some (.int .i64 ((n : Int) + 8))) none none).run Try.prog W = .ok (.slice (offA (some ⟨b, o, none⟩) c0 (n + 8)) 9 (c0 - (n + 8))) W := fun W => by
    have h := run_slK W (some ⟨b, o, none⟩) (n + 17) c0 .i64 ((n : Int) + 8) (by omega) (by omega)
    rw [h, show ((n : Int) + 8).toNat = n + 8 from by omega]
    congr 2
    omega
  go_enter Try.func25, Try.ntmps25
  go_upto_region 1 with fail
  rw [HW.out, HG.out]
  go_wp2_with fail
  refine CP.out.mono ?_
  rintro e w2 ⟨At, ct, rfl, hT, hb2, hct, hfar⟩
  have hbS := hb2.alloc hb2.size (.cells (spC a.s At a.s.tags.length ct) 43)
  have hT2 := Rd.allocS hT (.cells (spC a.s At a.s.tags.length ct) 43)
  have bks := Bk.new w2 43 (spC a.s At a.s.tags.length ct)
  go_upto_region 5 with fail
  obtain ⟨sb, hsb⟩ : ∃ sb, w2.heap.size = sb := ⟨_, rfl⟩
  obtain ⟨w3, hw3⟩ : ∃ w3, w2.alloc (.cells (spC a.s At a.s.tags.length ct) 43) = w3 := ⟨_, rfl⟩
  rw [hw3] at hbS hT2 bks ⊢
  rw [hsb] at bks ⊢
  have hsbr : rb < sb := by have := hb2.size; omega
  have bkr3 := bkr.bS hbS
  have ha3 : Rb w3 rb (some ⟨b, o, none⟩) zs := (ha1.below (hbS.mono (by omega))).more hBr
  clear hw3 hsb hT hb2 ha1
  have hd17 : Rb w3 rb (offA (some ⟨b, o, none⟩) c0 n) (zs.drop n) := ha3.drop (by rw [HL.out]; exact hcap)
  have hd9 : Rb w3 rb (offA (some ⟨b, o, none⟩) c0 (n + 8)) (zs.drop (n + 8)) := ha3.drop (by rw [HL.out]; exact hcap)
  rw [HD0.out] at hd17
  rw [HD1.out] at hd9
  have hv1 : ordVal ((ordEnc a.up ++ (ordEnc y ++ [a.flag])).take 8) = a.up := by
    have : (ordEnc a.up ++ (ordEnc y ++ [a.flag])).take 8 = ordEnc a.up := by rw [← ordEnc_len a.up]; exact List.take_left
    rw [this]
    have h := ordTo_val a.up 8
    rw [ordEnc, h, Nat.mod_eq_of_lt hok.2.1]
  have hv2 : ordVal ((ordEnc y ++ [a.flag]).take 8) = y := by
    have : (ordEnc y ++ [a.flag]).take 8 = ordEnc y := by rw [← ordEnc_len y]; exact List.take_left
    rw [this]
    have h := ordTo_val y 8
    rw [ordEnc, h, Nat.mod_eq_of_lt hyl]
  have cr1 := wireReadOrdered1 (n := 17) (c := c0 - n) w3 hd17 ((ordEnc_byt _).append ((ordEnc_byt _).append (fun z hz => by simp at hz; omega))) (by simp [ordEnc_len, maxLen]) (by omega) (by simp [ordEnc_len]) (by omega)
  have cr2 := wireReadOrdered1 (n := 9) (c := c0 - (n + 8)) w3 hd9 ((ordEnc_byt _).append (fun z hz => by simp at hz; omega)) (by simp [ordEnc_len, maxLen]) (by omega) (by simp [ordEnc_len]) (by omega)
  rw [hv1] at cr1
  rw [hv2] at cr2
  have CR1 := Lib.hid cr1
  have CR2 := Lib.hid cr2
  clear hv1 hv2 cr1 cr2 hd17 hd9
  go_upto_region 9 with (first
    | (go_at_call 30; with_reducible refine CR1.out.mono ?_; rintro e w' ⟨rfl, rfl⟩)
    | (go_at_call 30; with_reducible refine CR2.out.mono ?_; rintro e w' ⟨rfl, rfl⟩))
  have lsp := loadK_spK bks.drew
  have hfc : w3.drew.cell? ⟨b, o + (n + 16), none⟩ = some (.int .u8 a.flag) := by
    obtain ⟨b', o', e', -, h'⟩ := Rd.get ha3 (bv_get HD2.out)
    cases e'
    exact h'
  have lspA : ∀ cs : Array Value, (loadK 43 ⟨sb, 0, none⟩).run Try.prog (w3.alloc (.cells cs 45)).drew = .ok (spV a.s At a.s.tags.length ct) (w3.alloc (.cells cs 45)).drew := fun cs => loadK_spK (bks.alloc (.cells cs 45)).drew
  have hfcA : ∀ cs : Array Value, (w3.alloc (.cells cs 45)).drew.cell? ⟨b, o + (n + 16), none⟩ = some (.int .u8 a.flag) := fun cs => by
    have h := ha3.alloc (show rb ≤ w3.heap.size by have := bkr3.lt; omega) (.cells cs 45)
    obtain ⟨b', o', e', -, h'⟩ := Rd.get h (bv_get HD2.out)
    cases e'
    exact h'
  have hq1 : IntKind.i64.wrap ((n : Int) + 16) = (n : Int) + 16 := IntWalk.i64_in _ ⟨by omega, by omega⟩
  have hq2 : (0 : Int) ≤ (n : Int) + 16 := by omega
  have hq3 : ((n : Int) + 16).toNat = n + 16 := by omega
  have hq4 : (n : Int) + 16 < ((n + 17 : Nat) : Int) := by omega
  have hsh := HSH.out
  have hwf : IntKind.i64.wrap a.flag = a.flag := IntWalk.i64_in _ ⟨by omega, by omega⟩
  go_region_held3 (fun w' => (loadK 43 ⟨sb, 0, none⟩).run Try.prog w' = .ok (spV a.s At a.s.tags.length ct) w' ∧ w'.cell? ⟨b, o + (n + 16), none⟩ = some (.int .u8 a.flag)) (go_keep) (fail)
  all_goals
    have bka : Bk (w3.alloc (.cells (adC a At a.s.tags.length ct) 45)).drew w3.heap.size 45 (adC a At a.s.tags.length ct) := (Bk.new w3 _ _).drew
    have hb4 : Below w3.heap.size w3 (w3.alloc (.cells (adC a At a.s.tags.length ct) 45)).drew := below_drewN ((Below.refl _ w3).alloc (Nat.le_refl _) _) 1
    obtain ⟨w4, hw4⟩ : ∃ w4, (w3.alloc (.cells (adC a At a.s.tags.length ct) 45)).drew = w4 := ⟨_, rfl⟩
    rw [hw4] at bka hb4 ⊢
    have bkr4 := bkr3.bS hb4
    have hT4 := hT2.belowS hb4
    have hbel : Below w.heap.size w w4 := (HB0.out.trans (hbS.mono HB0.out.size)).trans (hb4.mono (Nat.le_trans HB0.out.size hbS.size))
    have laA := loadK_ad bka
    have hf13 : w4.cell? ⟨w3.heap.size, 13, none⟩ = some (.int .i64 a.flag) := bka.cell 13
    have hf2 : decide (2 < a.flag) = false := by simp; omega
    have HRB : Hid (w.heap.size = rb) := HG
    clear lspA hfcA hsl1 hsl2 hq1 hq2 hq3 hq4 hsh hwf lsp hfc hw4
    go_upto_region 12 with fail
    go_wp2_with (refine wpList_store_row rfl 45 (.tmp 2) (.tmp 64) rfl rb (adC a At a.s.tags.length ct) rfl rfl 45 zadC bkr4 (by rfl) rfl (adC_one _ _ _ _) ?_)
    refine bodyPost_ret (results_cell_row_tmpK rfl _ _ rb 45 (adC a At a.s.tags.length ct) _ rfl (bkr4.rowK _) Try.underlying45 rfl (by rfl)) rfl ?_
    have hbw := below_rowK hbel (show w.heap.size ≤ rb by rw [HRB.out]; exact Nat.le_refl _) (adC a At a.s.tags.length ct)
    refine ⟨At, ct, rfl, fun hne => ?_, hbw, hct⟩
    obtain ⟨b', o', e', hb', hc'⟩ := hT4 hne
    refine ⟨b', o', e', by simpa [World.setRow] using hb', fun j u hu => ?_⟩
    have hne2 : b' ≠ rb := fun e => by
      have h := hfar _ e'
      have h1 : w1.heap.size ≤ b' := h
      omega
    exact (World.cell?_of_block (a := ⟨b', o' + j, none⟩) (setRow_other w4 rb b' _ (fun e => hne2 e))).trans (hc' j u hu)
end Go.Proofs.Ytlamebbolioljaa

/- Rows of structs: cells of a fixed number an element, one behind the other. Plain. -/
namespace Go.Proofs.Ytlamebbolioljaa
open Go.RowKit

section
variable {α : Type} {f : α → List Value} {k : Nat}
def flatR (f : α → List Value) (l : List α) : List Value := l.flatMap f
theorem flatR_append (a b : List α) : flatR f (a ++ b) = flatR f a ++ flatR f b := by simp [flatR]
theorem flatR_cons (x : α) (l : List α) : flatR f (x :: l) = f x ++ flatR f l := rfl
theorem flatR_length (hk : ∀ x, (f x).length = k) (l : List α) : (flatR f l).length = l.length * k := by
  induction l with
  | nil => simp [flatR]
  | cons x l ih => rw [flatR_cons, List.length_append, ih, hk, List.length_cons, Nat.add_mul, Nat.one_mul, Nat.add_comm]
theorem flatR_get (hk : ∀ x, (f x).length = k) : ∀ {l : List α} {i : Nat} {x : α}, l[i]? = some x → ∀ j, j < k → (flatR f l)[i * k + j]? = (f x)[j]? := by
  intro l
  induction l with
  | nil => intro i x h; simp at h
  | cons u l ih =>
    intro i x h j hj
    rw [flatR_cons]
    cases i with
    | zero =>
      simp at h
      subst h
      rw [List.getElem?_append_left (by rw [hk]; omega), Nat.zero_mul, Nat.zero_add]
    | succ i =>
      have := ih (i := i) (x := x) (by simpa using h) j hj
      rw [List.getElem?_append_right (by rw [hk, Nat.add_mul]; omega), hk, show (i + 1) * k + j - k = i * k + j from by rw [Nat.add_mul]; omega]
      exact this
theorem flatR_take (hk : ∀ x, (f x).length = k) (l : List α) (n : Nat) : (flatR f l).take (n * k) = flatR f (l.take n) := by
  induction l generalizing n with
  | nil => simp [flatR]
  | cons x l ih =>
    cases n with
    | zero => simp [flatR]
    | succ n => rw [flatR_cons, List.take_succ_cons, flatR_cons, ← ih n, List.take_append, hk, List.take_of_length_le (by rw [hk, Nat.add_mul]; omega), show (n + 1) * k - k = n * k from by rw [Nat.add_mul]; omega]
theorem flatR_drop (hk : ∀ x, (f x).length = k) (l : List α) (n : Nat) : (flatR f l).drop (n * k) = flatR f (l.drop n) := by
  induction l generalizing n with
  | nil => simp [flatR]
  | cons x l ih =>
    cases n with
    | zero => simp [flatR]
    | succ n => rw [flatR_cons, List.drop_succ_cons, ← ih n, List.drop_append, hk, List.drop_eq_nil_of_le (by rw [hk, Nat.add_mul]; omega), show (n + 1) * k - k = n * k from by rw [Nat.add_mul]; omega, List.nil_append]
theorem flatR_one (h1 : ∀ x, ∀ u ∈ f x, u.oneCell' = true) (l : List α) : ∀ u ∈ flatR f l, u.oneCell' = true := by
  intro u hu
  obtain ⟨x, _, hx⟩ := List.mem_flatMap.1 hu
  exact h1 x u hx
/-- An element's cells. -/
theorem flatR_at (hk : ∀ x, (f x).length = k) (h0 : 0 < k) {w : World} {B : Nat} {A : Option Addr} {l : List α} (h : Rd w B A (flatR f l)) {i : Nat} {x : α} (hi : l[i]? = some x) :
    ∃ b o, A = some ⟨b, o, none⟩ ∧ b < B ∧ ∀ j, j < k → w.cell? ⟨b, o + (i * k + j), none⟩ = (f x)[j]? := by
  have hl := (List.getElem?_eq_some_iff.1 hi).1
  have hlen := flatR_length hk l
  have hpos : 0 < (flatR f l).length := by rw [hlen]; exact Nat.mul_pos (by omega) h0
  obtain ⟨b, o, hA, hb, hc⟩ := h (by intro e; rw [e] at hpos; simp at hpos)
  refine ⟨b, o, hA, hb, fun j hj => ?_⟩
  have h1 := flatR_get hk hi j hj
  have h2 : j < (f x).length := by rw [hk]; exact hj
  rw [List.getElem?_eq_getElem h2] at h1 ⊢
  exact hc _ _ h1
end
end Go.Proofs.Ytlamebbolioljaa

/- Lists of adjusted spans, as they lie; adjust.Bounds; schema.Record. -/
namespace Go.Proofs.Ytlamebbolioljaa
open Go.RowKit
theorem loadAd_shut4 (a : Addr) : loadVar 45 a = loadK 45 a := rfl
attribute [local go_sem ↓] loadAd_shut4

/-- An adjusted span as it lies: itself, and its tags' slice. -/
structure AE where
  a : Ad
  A : Option Addr
  n : Nat
  c : Nat
def aeC (e : AE) : List Value := (adC e.a e.A e.n e.c).toList
theorem aeC_length (e : AE) : (aeC e).length = 14 := rfl
theorem aeC_one (e : AE) : ∀ u ∈ aeC e, u.oneCell' = true := by
  intro u hu
  have := adC_one e.a e.A e.n e.c
  rw [Array.all_eq_true'] at this
  exact this u (by simpa [aeC] using hu)
abbrev aes (l : List AE) : List Value := flatR aeC l
/-- Its tags lie where it says. -/
structure AeOk (w : World) (B : Nat) (e : AE) : Prop where
  rd : RbT w B e.A e.a.s.tags
  len : e.a.s.tags.length = e.n
  max : e.n ≤ 9223372036854775807
  ok : e.a.Ok
theorem AeOk.below {w w' : World} {B : Nat} {e : AE} (h : AeOk w B e) (hb : Below B w w') : AeOk w' B e := ⟨Rd.below h.rd hb, h.len, h.max, h.ok⟩
theorem AeOk.more {w : World} {B B' : Nat} {e : AE} (h : AeOk w B e) (hb : B ≤ B') : AeOk w B' e := ⟨Rd.more h.rd hb, h.len, h.max, h.ok⟩
/-- Adjusted spans that lie from A on, and their tags. -/
structure RbA (w : World) (B : Nat) (A : Option Addr) (l : List AE) : Prop where
  rd : Rd w B A (aes l)
  ok : ∀ e ∈ l, AeOk w B e
section
variable {w w' : World} {B B' : Nat} {A : Option Addr} {l : List AE}
theorem RbA.nil : RbA w B A [] := ⟨Rd.nil, fun _ h => by cases h⟩
theorem RbA.below (h : RbA w B A l) (hb : Below B w w') : RbA w' B A l := ⟨Rd.below h.rd hb, fun e he => (h.ok e he).below hb⟩
theorem RbA.more (h : RbA w B A l) (hB : B ≤ B') : RbA w B' A l := ⟨Rd.more h.rd hB, fun e he => (h.ok e he).more hB⟩
theorem RbA.bS (h : RbA w w.heap.size A l) (hb : Below w.heap.size w w') : RbA w' w'.heap.size A l := (h.below hb).more hb.size
theorem RbA.get (h : RbA w B A l) {i : Nat} {e : AE} (hi : l[i]? = some e) :
    ∃ b o, A = some ⟨b, o, none⟩ ∧ b < B ∧ (∀ j, j < 14 → w.cell? ⟨b, o + (i * 14 + j), none⟩ = (aeC e)[j]?) ∧ AeOk w B e := by
  obtain ⟨b, o, hA, hb, hc⟩ := flatR_at aeC_length (by omega) h.rd hi
  exact ⟨b, o, hA, hb, hc, h.ok e (List.mem_of_getElem? hi)⟩
end
set_option maxRecDepth 100000 in
theorem loadK_ae {w : World} {b o i : Nat} {e : AE} (h : ∀ j, j < 14 → w.cell? ⟨b, o + (i * 14 + j), none⟩ = (aeC e)[j]?) : (loadK 45 ⟨b, o + i * 14, none⟩).run Try.prog w = .ok (adV e.a e.A e.n e.c) w :=
  run_loadVar_cellsK w _ _ ⟨b, o + i * 14, none⟩ (aeC e) Try.underlying45 rfl (by rfl) (fun j v hv => by
    have hj : j < 14 := by have := (List.getElem?_eq_some_iff.1 hv).1; rwa [aeC_length] at this
    rw [Addr.add_lit, Nat.add_assoc, h j hj, hv])

/-- From when to when adjusted spans are. -/
def bndStep (b : Int × Int) (e : AE) : Int × Int := (min b.1 e.a.s.start, max b.2 (e.a.s.start + e.a.s.length))
def bnds : List AE → Int × Int
  | [] => (0, 0)
  | e :: l => (e :: l).foldl bndStep (e.a.s.start, e.a.s.start + e.a.s.length)
def recEnc (n f t : Nat) : List Int := numEnc n ++ numEnc f ++ numEnc t
set_option maxRecDepth 100000 in
set_option maxHeartbeats 2000000 in
theorem scRecord (n f t : Nat) (w : World) (hn : n < 9223372036854775808) (hf : f < 9223372036854775808) (ht : t < 9223372036854775808) :
    Calls Try.prog 44 #[.agg #[.int .i64 n, .int .i64 f, .int .i64 t]] w (RetNew 5 1 w (recEnc n f t).length (bv (recEnc n f t)) (fun _ => True)) := by
  have bk := Bk.new w 90 #[.int .i64 n, .int .i64 f, .int .i64 t]
  have hb0 : Below w.heap.size w (w.alloc (.cells #[.int .i64 n, .int .i64 f, .int .i64 t] 90)) := (Below.refl _ w).alloc (Nat.le_refl _) _
  obtain ⟨w1, hw1⟩ : ∃ w1, w.alloc (.cells #[.int .i64 n, .int .i64 f, .int .i64 t] 90) = w1 := ⟨_, rfl⟩
  rw [hw1] at bk hb0
  obtain ⟨g, hg⟩ : ∃ g, w.heap.size = g := ⟨_, rfl⟩
  rw [hg] at bk
  have HW := Lib.hid hw1
  have HG := Lib.hid hg
  have HB0 := Lib.hid hb0
  have hg0 : w.grownBy w1.drew none := ⟨hb0.os, hb0.tape, hb0.output, hb0.size, fun k hk _ => hb0.block k hk⟩
  have HG0 := Lib.hid hg0
  have hgl := bk.lt
  have k0 : w1.drew.cell? ⟨g, 0, none⟩ = some (.int .i64 n) := bk.drew.cell 0
  have k1 : w1.drew.cell? ⟨g, 1, none⟩ = some (.int .i64 f) := bk.drew.cell 1
  have k2 : w1.drew.cell? ⟨g, 2, none⟩ = some (.int .i64 t) := bk.drew.cell 2
  have r0 : IntKind.u64.wrap (n : Int) = (n : Int) := IntWalk.u64_in _ ⟨by omega, by omega⟩
  have r1 : IntKind.u64.wrap (f : Int) = (f : Int) := IntWalk.u64_in _ ⟨by omega, by omega⟩
  have r2 : IntKind.u64.wrap (t : Int) = (t : Int) := IntWalk.u64_in _ ⟨by omega, by omega⟩
  have l0 := numEnc_u64 (x := n) (by omega)
  have l1 := numEnc_u64 (x := f) (by omega)
  have l2 := numEnc_u64 (x := t) (by omega)
  have cells : ∀ W : World, Bk W g 90 #[.int .i64 n, .int .i64 f, .int .i64 t] → W.cell? ⟨g, 0, none⟩ = some (.int .i64 n) ∧ W.cell? ⟨g, 1, none⟩ = some (.int .i64 f) ∧ W.cell? ⟨g, 2, none⟩ = some (.int .i64 t) := fun W h => ⟨h.cell 0, h.cell 1, h.cell 2⟩
  have CE := Lib.hid cells
  obtain ⟨e1, he1⟩ : ∃ e1, numEnc n = e1 := ⟨_, rfl⟩
  obtain ⟨e2, he2⟩ : ∃ e2, e1 ++ numEnc f = e2 := ⟨_, rfl⟩
  obtain ⟨e3, he3⟩ : ∃ e3, e2 ++ numEnc t = e3 := ⟨_, rfl⟩
  have hrec : recEnc n f t = e3 := by rw [recEnc, he1, he2, he3]
  rw [hrec]
  have q1 : e1.length ≤ 10 := by rw [← he1]; exact l0
  have q2 : e2.length ≤ 20 := by rw [← he2, List.length_append]; omega
  have q2e : e2.length = e1.length + (numEnc f).length := by rw [← he2, List.length_append]
  have q3e : e3.length = e2.length + (numEnc t).length := by rw [← he3, List.length_append]
  have c1 := wireNumber (base := w.heap.size) (A := none) (c := 0) (n := 0) (x := n) (xs := []) w1.drew (World.ownsRow_nil _ _ _ _) hb0.size (by omega) (by omega)
  rw [List.nil_append, he1, Nat.zero_add] at c1
  have HC1 := Lib.hid c1
  have HQ2 := Lib.hid q2e
  have HQ3 := Lib.hid q3e
  have HE2 := Lib.hid he2
  have HE3 := Lib.hid he3
  clear hw1 hg hb0 hg0 cells he1 he2 he3 hrec c1 q2e q3e
  go_enter Try.func44, Try.ntmps44
  go_upto_region 1 with fail
  rw [HW.out, HG.out]
  go_region_held3 (fun w' => w'.cell? ⟨g, 0, none⟩ = some (.int .i64 n) ∧ w'.cell? ⟨g, 1, none⟩ = some (.int .i64 f) ∧ w'.cell? ⟨g, 2, none⟩ = some (.int .i64 t)) (go_keep)
    (first
      | (go_at_call_of 62 (Value.int IntKind.u64 (n : Int))
         (refine HC1.out.mono ?_)
         rintro e wa ⟨A1, a1, rfl, h1, -⟩
         have bka := bk.drew.below h1.below0 hgl
         obtain ⟨s0, s1, s2⟩ := CE.out wa bka
         have c2 := wireNumber (x := f) wa h1.own (Nat.le_trans HB0.out.size h1.heap) (by omega) (by omega)
         rw [HE2.out, ← HQ2.out] at c2
         have HC2 := Lib.hid c2
         clear c2)
      | (go_at_call_of 62 (Value.int IntKind.u64 (f : Int))
         refine HC2.out.mono ?_
         rintro e wb ⟨A2, a2, rfl, h2, -⟩
         have h12 := h1.trans h2
         have bkb := bk.drew.below h12.below0 hgl
         obtain ⟨t0, t1, t2⟩ := CE.out wb bkb
         have c3 := wireNumber (x := t) wb h12.own (Nat.le_trans HB0.out.size h12.heap) (by omega) (by omega)
         rw [HE3.out, ← HQ3.out] at c3
         have HC3 := Lib.hid c3
         clear c3)
      | (go_at_call_of 62 (Value.int IntKind.u64 (t : Int))
         refine HC3.out.mono ?_
         rintro e wd ⟨A3, a3, rfl, h3, -⟩
         have h13 := h12.trans h3
         have bkd := bk.drew.below h13.below0 hgl
         obtain ⟨v0, v1, v2⟩ := CE.out wd bkd)
      | fail)
  go_wp2
  go_ret
  exact ⟨A3, a3, rfl, h13.fresh HG0.out (fun k hk => by cases hk), trivial⟩
end Go.Proofs.Ytlamebbolioljaa

/- adjust.Bounds: from when to when adjusted spans are. -/
namespace Go.Proofs.Ytlamebbolioljaa
open Go.RowKit
theorem loadAd_shut5 (a : Addr) : loadVar 45 a = loadK 45 a := rfl
attribute [local go_sem ↓] loadAd_shut5

theorem bnds_one (e : AE) : bnds [e] = (e.a.s.start, e.a.s.start + e.a.s.length) := by
  simp [bnds, bndStep]
theorem bnds_snoc {l : List AE} (h : l ≠ []) (e : AE) : bnds (l ++ [e]) = bndStep (bnds l) e := by
  cases l with
  | nil => exact absurd rfl h
  | cons x l => simp only [bnds, List.cons_append, List.foldl_append, List.foldl_cons, List.foldl_nil]
/-- Times that add up without wrapping. -/
def AE.Tm (e : AE) : Prop := 0 ≤ e.a.s.start ∧ e.a.s.start < 4611686018427387904 ∧ 0 ≤ e.a.s.length ∧ e.a.s.length < 4611686018427387904
set_option maxRecDepth 100000 in
set_option maxHeartbeats 2000000 in
theorem scBounds {A : Option Addr} {n c B : Nat} (l : List AE) (w : World) (h : RbA w B A l) (hn : l.length = n) (hB : B ≤ w.heap.size) (hnl : n ≤ 1000) (ht : ∀ e ∈ l, e.Tm) :
    Calls Try.prog 43 #[.slice A n c] w fun e w' => e = .returned (.tuple #[.int .i64 (bnds l).1, .int .i64 (bnds l).2]) ∧ Below w.heap.size w w' := by
  have HN := Lib.hid hn
  have HH := Lib.hid h
  have HT := Lib.hid ht
  clear hn h ht
  go_enter Try.func43, Try.ntmps43
  go_wp2_with fail
  go_loopw [2, 3, 9] (fun f t iv_ wr => ∃ j : Nat, j ≤ n ∧ iv_ = .int .i64 j ∧ f = .int .i64 (bnds (l.take j)).1 ∧ t = .int .i64 (bnds (l.take j)).2 ∧ Below w.heap.size w wr) (fun _ _ i _ => n - (intOf i).toNat)
  case atStart => exact ⟨0, by omega, rfl, rfl, rfl, Below.refl _ _⟩
  case round =>
    obtain ⟨j, hj, rfl, rfl, rfl, hbr⟩ := hrel
    by_cases hlt : j < n
    · have hlt' : (j : Int) < (n : Int) := by omega
      obtain ⟨x, hx⟩ : ∃ x, l[j]? = some x := ⟨_, List.getElem?_eq_getElem (by rw [HN.out]; exact hlt)⟩
      obtain ⟨b, o, e', hbb, hc, -⟩ := RbA.get (HH.out.below (hbr.mono hB)) hx
      cases e'
      have la := loadK_ae (e := x) hc
      have tm := HT.out x (List.mem_of_getElem? hx)
      obtain ⟨s0, hs0⟩ : ∃ s0, x.a.s.start = s0 := ⟨_, rfl⟩
      have hw : IntKind.i64.wrap (x.a.s.start + x.a.s.length) = x.a.s.start + x.a.s.length := IntWalk.i64_in _ (by unfold AE.Tm at tm; constructor <;> omega)
      have htk := take_snoc hx
      have HX := Lib.hid hx
      have HTK := Lib.hid htk
      clear hc hx tm htk hs0
      by_cases h0 : j = 0
      · have h0' : ((j : Int) == 0) = true := by simp; omega
        have ht1 : l.take (j + 1) = [x] := by rw [HTK.out, h0]; rfl
        have HT1 := Lib.hid ht1
        clear ht1 h0
        go_wp2
        refine ⟨⟨j + 1, by omega, by simp, ?_, ?_, hbr.alloc hbr.size _⟩, by simp only [intOf]; omega⟩
        · rw [HT1.out, bnds_one]
        · rw [HT1.out, bnds_one]
      · have h0' : ((j : Int) == 0) = false := by simp; omega
        have hne : l.take j ≠ [] := fun e => by
          have h := congrArg List.length e
          rw [List.length_take, HN.out] at h
          simp at h
          omega
        have hb1 : bnds (l.take (j + 1)) = bndStep (bnds (l.take j)) x := by rw [HTK.out, bnds_snoc hne]
        have HB1 := Lib.hid hb1
        clear hb1 hne
        go_wp2
        refine ⟨⟨j + 1, by omega, by simp, ?_, ?_, hbr.alloc hbr.size _⟩, by simp only [intOf]; omega⟩
        · rw [HB1.out]
          simp only [bndStep]
          congr 1
          omega
        · rw [HB1.out]
          simp only [bndStep]
          congr 1
          omega
    · have hjn : j = n := by omega
      subst hjn
      have htk : l.take j = l := List.take_of_length_le (by rw [HN.out]; exact Nat.le_refl _)
      rw [htk]
      go_wp2
      go_ret2
      exact ⟨rfl, hbr⟩
end Go.Proofs.Ytlamebbolioljaa
