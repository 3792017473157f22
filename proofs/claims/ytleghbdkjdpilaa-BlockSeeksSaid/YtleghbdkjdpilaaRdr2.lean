/- Contracts of wire's reader: the methods. -/
import Derived.Test.YtleghbdkjdpilaaRdr
namespace Go.Proofs.Ytleghbdkjdpilaa
open Go.RowKit

/-- The reader at block g reads the bytes zs (they lie from A on), stands at p, and holds the error e. -/
structure Rdr (w : World) (g : Nat) (A : Option Addr) (c : Nat) (zs : List Int) (p e : Nat) : Prop where
  blk : Bk w g 69 #[.slice A zs.length c, .int .i64 p, .bool true, .int .i64 e]
  rd : Rb w w.heap.size A zs
  far : ∀ a, A = some a → a.block ≠ g
  cap : zs.length ≤ c
  pos : p ≤ zs.length
  byt : Byt zs
  len : zs.length ≤ 140737488351232
  nil : A = none → c = 0
section
variable {w w' : World} {g c p e : Nat} {A : Option Addr} {zs : List Int}
theorem Rdr.drewN (h : Rdr w g A c zs p e) (k : Nat) : Rdr (w.drewN k) g A c zs p e := ⟨h.blk, h.rd, h.far, h.cap, h.pos, h.byt, h.len, h.nil⟩
theorem Rd.setfar {B : Nat} {xs : List Value} (h : Rd w B A xs) {q : Addr} (hq : ∀ a, A = some a → a.block ≠ q.block) (u : Value) : Rd (w.setCell q u) B A xs := fun hn => by
  obtain ⟨b, o, rfl, hb, hc⟩ := h hn
  exact ⟨b, o, rfl, hb, fun j v hv => (World.cell?_setCell_other w q ⟨b, o + j, none⟩ u (fun e => hq _ rfl (by subst e; rfl))).trans (hc j v hv)⟩
theorem Rdr.putErr (h : Rdr w g A c zs p e) (e' : Nat) : Rdr (w.setCell ⟨g, 3, none⟩ (.int .i64 e')) g A c zs p e' :=
  ⟨h.blk.set 3 _, by simpa [World.setCell] using h.rd.setfar (q := ⟨g, 3, none⟩) h.far _, h.far, h.cap, h.pos, h.byt, h.len, h.nil⟩
theorem Rdr.putAt (h : Rdr w g A c zs p e) {p' : Nat} (hp : p' ≤ zs.length) : Rdr (w.setCell ⟨g, 1, none⟩ (.int .i64 p')) g A c zs p' e :=
  ⟨h.blk.set 1 _, by simpa [World.setCell] using h.rd.setfar (q := ⟨g, 1, none⟩) h.far _, h.far, h.cap, hp, h.byt, h.len, h.nil⟩
/-- What leaves the reader's two blocks alone keeps it. -/
theorem Rdr.keep (h : Rdr w g A c zs p e) {row : Option Nat} (hg : w.grownBy w' row) (h1 : row ≠ some g) (h2 : ∀ a, A = some a → row ≠ some a.block) : Rdr w' g A c zs p e := by
  refine ⟨(hg.block g h.blk.lt (fun e => h1 e.symm)).trans h.blk, fun hn => ?_, h.far, h.cap, h.pos, h.byt, h.len, h.nil⟩
  obtain ⟨b, o, rfl, hb, hc⟩ := h.rd hn
  exact ⟨b, o, rfl, Nat.lt_of_lt_of_le hb hg.size, fun j v hv => (World.cell?_of_block (a := ⟨b, o + j, none⟩) (hg.block b hb (fun e => h2 _ rfl e.symm))).trans (hc j v hv)⟩
theorem Rdr.below (h : Rdr w g A c zs p e) (hg : Below w.heap.size w w') : Rdr w' g A c zs p e :=
  h.keep (row := none) ⟨hg.os, hg.tape, hg.output, hg.size, fun k hk _ => hg.block k hk⟩ (by simp) (by simp)
end
/-- The state behind a call of Number: the number, the place, the error. -/
def rdNum (zs : List Int) (p e : Nat) : Nat × Nat × Nat := if e ≠ 0 then (0, p, e) else ((shortOf (zs.drop p)).1, p + (shortOf (zs.drop p)).2.1, (shortOf (zs.drop p)).2.2)
theorem shortOf_le {zs : List Int} (hz : Byt zs) : (shortOf zs).2.1 ≤ zs.length ∧ (shortOf zs).2.2 ≤ 12 := by
  rcases shortOf_err zs with h | h | h
  · have := shortOf_ok hz (y := (shortOf zs).1) (n := (shortOf zs).2.1) (by rw [← h])
    omega
  · rw [h]; simp
  · rw [h]; simp
theorem only_set {w w' : World} {g : Nat} (h : w.grownBy w' (some g)) (o : Nat) (u : Value) : w.grownBy (w'.setCell ⟨g, o, none⟩ u) (some g) :=
  ⟨h.os, h.tape, h.output, by simpa [World.setCell] using h.size, fun i hi hne => (Below.heap_setCell w' _ u i (by rintro rfl; exact hne rfl)).trans (h.block i hi hne)⟩
theorem only_drewN {w w' : World} {r : Option Nat} (h : w.grownBy w' r) (k : Nat) : w.grownBy (w'.drewN k) r := ⟨h.os, h.tape, h.output, h.size, h.block⟩

set_option maxHeartbeats 400000 in
theorem rdrNewB {A0 : Option Addr} {c0 B n : Nat} {zs : List Int} (w : World) (ha : Rb w B A0 zs) (hB : B ≤ w.heap.size) (hz : Byt zs) (hl : zs.length ≤ 140737488351232) (hc : A0 = none → zs = [] ∧ c0 = 0) (hn : zs.length = n) :
    Calls Try.prog 30 #[.slice A0 n c0] w fun e w' => ∃ g A c, e = .returned (.pointer (some ⟨g, 0, none⟩)) ∧ Rdr w' g A c zs 0 0 ∧ Below w.heap.size w w' ∧ w.heap.size ≤ g ∧ (∀ a, A = some a → w.heap.size ≤ a.block ∧ a.block < w'.heap.size) := by
  subst hn
  go_enter Try.func30, Try.ntmps30
  go_wp2_with fail
  refine (bytesClone w ha hB hl hc rfl).mono ?_
  rintro e w1 ⟨A, c, rfl, happ, hA⟩
  go_wp2
  go_ret
  have hb := happ.below0
  have hlo : ∀ a, A = some a → w.heap.size ≤ a.block := fun a ha => by
    subst ha
    exact (happ.own.lt a.block rfl).1
  have hhi : ∀ a, A = some a → a.block < w1.heap.size := fun a ha => by
    subst ha
    exact (happ.own.lt a.block rfl).2
  refine ⟨w1.heap.size, A, c, rfl, ⟨Bk.new w1 _ _, ?_, ?_, ?_, Nat.zero_le _, hz, hl, ?_⟩, hb.alloc hb.size _, hb.size, fun a ha => ⟨hlo a ha, by have := hhi a ha; simp; omega⟩⟩
  · exact ((Rd.of_own happ.own).alloc (Nat.le_refl _) _).more (by simp)
  · intro a ha e
    have := hhi a ha
    omega
  · rcases happ.own.2 with ⟨h1, h2⟩ | ⟨_, cap, _, h1, _, _, h2, _⟩
    · omega
    · injection h1 with _ _ h3
      omega
  · rintro rfl
    rcases happ.own.2 with ⟨h1, _⟩ | ⟨_, _, _, h1, _⟩
    · injection h1
    · cases h1

theorem rdrNew {A0 : Option Addr} {c0 B n : Nat} {zs : List Int} (w : World) (ha : Rb w B A0 zs) (hB : B ≤ w.heap.size) (hz : Byt zs) (hl : zs.length ≤ 140737488351232) (hc : A0 = none → zs = [] ∧ c0 = 0) (hn : zs.length = n) :
    Calls Try.prog 30 #[.slice A0 n c0] w fun e w' => ∃ g A c, e = .returned (.pointer (some ⟨g, 0, none⟩)) ∧ Rdr w' g A c zs 0 0 ∧ Below w.heap.size w w' ∧ w.heap.size ≤ g ∧ (∀ a, A = some a → w.heap.size ≤ a.block) := by
  refine (rdrNewB w ha hB hz hl hc hn).mono ?_
  rintro e w' ⟨g, A, c, h1, h2, h3, h4, h5⟩
  exact ⟨g, A, c, h1, h2, h3, h4, fun a ha => (h5 a ha).1⟩

theorem wireShort' {A : Option Addr} {c n B x m er : Nat} {zs : List Int} (w : World) (hs : shortOf zs = (x, m, er)) (ha : Rb w B A zs) (hz : Byt zs) (hl : zs.length ≤ maxLen) (hn : zs.length = n) :
    Calls Try.prog 52 #[.slice A n c] w fun e w' => e = .returned (.tuple #[.int .u64 x, .int .i64 m, .int .i64 er]) ∧ w' = w := by
  have := wireShort (c := c) w ha hz hl hn
  rw [hs] at this
  exact this
/-- What the walk of a method is told of the reader. -/
theorem Rdr.facts {w : World} {g c p e : Nat} {A : Option Addr} {zs : List Int} (h : Rdr w g A c zs p e) :
    w.cell? ⟨g, 0, none⟩ = some (.slice A zs.length c) ∧ w.cell? ⟨g, 1, none⟩ = some (.int .i64 p) ∧ w.cell? ⟨g, 2, none⟩ = some (.bool true) ∧ w.cell? ⟨g, 3, none⟩ = some (.int .i64 e) ∧ w.frozen? ⟨g, 1, none⟩ = false ∧ w.frozen? ⟨g, 3, none⟩ = false :=
  ⟨h.blk.cell 0, h.blk.cell 1, h.blk.cell 2, h.blk.cell 3, h.blk.frozen 1, h.blk.frozen 3⟩
theorem cast_add (a b : Nat) : ((a : Int) + (b : Int)) = ((a + b : Nat) : Int) := by omega
theorem shortOf_drop {zs : List Int} (hz : Byt zs) {p x m er : Nat} (hp : p ≤ zs.length) (hs : shortOf (zs.drop p) = (x, m, er)) : p + m ≤ zs.length ∧ er ≤ 12 ∧ x < 18446744073709551616 ∧ (er ≠ 0 → x = 0 ∧ m = 0) := by
  have h := shortOf_le (hz.drop p)
  rw [hs, List.length_drop] at h
  simp only at h
  refine ⟨by omega, h.2, ?_, ?_⟩
  · rcases shortOf_err (zs.drop p) with e | e | e
    · rw [hs] at e
      simp at e
      subst e
      exact (shortOf_ok (hz.drop p) hs).2.2
    · rw [hs] at e; simp at e; omega
    · rw [hs] at e; simp at e; omega
  · intro hne
    rcases shortOf_err (zs.drop p) with e | e | e
    · rw [hs] at e; exact absurd e hne
    · rw [hs] at e; simp at e; omega
    · rw [hs] at e; simp at e; omega

def NumPost (w : World) (g : Nat) (A : Option Addr) (c : Nat) (zs : List Int) (p e : Nat) (en : Ending) (w' : World) : Prop :=
  en = .returned (.int .u64 (rdNum zs p e).1) ∧ Rdr w' g A c zs (rdNum zs p e).2.1 (rdNum zs p e).2.2 ∧ w.grownBy w' (some g)
set_option maxHeartbeats 400000 in
theorem rdrNumber {A : Option Addr} {c g p e : Nat} {zs : List Int} (w : World) (h : Rdr w g A c zs p e) (he : e ≤ 100) :
    Calls Try.prog 47 #[.pointer (some ⟨g, 0, none⟩)] w (NumPost w g A c zs p e) := by
  obtain ⟨c0, c1, c2, c3, f1, f3⟩ := h.facts
  have hpos := h.pos
  have hcap := h.cap
  have hlen := h.len
  by_cases he0 : e = 0
  · subst he0
    obtain ⟨x, m, er, hs⟩ : ∃ x m er, shortOf (zs.drop p) = (x, m, er) := ⟨_, _, _, rfl⟩
    obtain ⟨hm, her, hx, _⟩ := shortOf_drop h.byt hpos hs
    have HS := Lib.hid hs
    clear hs
    go_enter Try.func47, Try.ntmps47
    go_wp2
    go_quiet ((go_at_call 52; go_loud (exact Calls.quiet_of_same (wireShort' _ HS.out (Rb.drop h.rd h.cap) (h.byt.drop p) (by rw [List.length_drop]; simp only [maxLen]; omega) (by rw [List.length_drop])))))
    generalize (if c = p then A else Option.map (fun x => x.add p) A) = A2
    go_wp2
    go_ret
    have hr : rdNum zs p 0 = (x, p + m, er) := by simp [rdNum, HS.out]
    refine ⟨by rw [hr]; rfl, ?_, only_set (only_set (only_drewN (World.grownBy.refl _ _) _) _ _) _ _⟩
    rw [hr, cast_add]
    exact ((h.drewN nq).putErr er).putAt hm
  · have hne : ((e : Int) != 0) = true := by rw [bne_iff_ne]; omega
    go_enter Try.func47, Try.ntmps47
    go_wp2
    go_ret
    have hr : rdNum zs p e = (0, p, e) := by simp [rdNum, he0]
    exact ⟨by rw [hr]; rfl, by rw [hr]; exact h, World.grownBy.refl _ _⟩

theorem rdrErr {A : Option Addr} {c g p e : Nat} {zs : List Int} (w : World) (h : Rdr w g A c zs p e) :
    Calls Try.prog 48 #[.pointer (some ⟨g, 0, none⟩)] w fun en w' => en = .returned (.int .i64 e) ∧ w' = w := by
  obtain ⟨c0, c1, c2, c3, f1, f3⟩ := h.facts
  go_enter Try.func48, Try.ntmps48
  go_wp2
  go_ret
  exact ⟨rfl, rfl⟩
theorem rdrLeft {A : Option Addr} {c g p e : Nat} {zs : List Int} (w : World) (h : Rdr w g A c zs p e) :
    Calls Try.prog 31 #[.pointer (some ⟨g, 0, none⟩)] w fun en w' => en = .returned (.int .i64 ((zs.length - p : Nat) : Int)) ∧ ∃ n, w' = w.drewN n := by
  obtain ⟨c0, c1, c2, c3, f1, f3⟩ := h.facts
  have hpos := h.pos
  have hlen := h.len
  obtain ⟨l, hl⟩ : ∃ l : Nat, l = zs.length - p := ⟨_, rfl⟩
  have hll : ((zs.length : Nat) : Int) - (p : Int) = (l : Int) := by omega
  rw [← hl]
  clear hl
  go_enter Try.func31, Try.ntmps31
  go_wp2
  go_quiet (fail)
  go_wp2
  go_ret
  exact ⟨rfl, _, rfl⟩
end Go.Proofs.Ytleghbdkjdpilaa
