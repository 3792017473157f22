/- Entries: two of them sorted. -/
import Derived.BigRegion
import Derived.Test.YtpjdlcdkldomlaaShelf
import Derived.Test.YtpjdlcdkldomlaaBatS
namespace Go.Proofs.Ytpjdlcdkldomlaa
open Go.RowKit

/-- Two entries in a row of the call's own. -/
structure Two (w : World) (g : Nat) (x y : Value × Nat × Int × Value) : Prop where
  c0 : w.cell? ⟨g, 0, none⟩ = some x.1
  c1 : w.cell? ⟨g, 1, none⟩ = some (.int .u64 x.2.1)
  c2 : w.cell? ⟨g, 2, none⟩ = some (.int .i64 x.2.2.1)
  c3 : w.cell? ⟨g, 3, none⟩ = some x.2.2.2
  c4 : w.cell? ⟨g, 4, none⟩ = some y.1
  c5 : w.cell? ⟨g, 5, none⟩ = some (.int .u64 y.2.1)
  c6 : w.cell? ⟨g, 6, none⟩ = some (.int .i64 y.2.2.1)
  c7 : w.cell? ⟨g, 7, none⟩ = some y.2.2.2

theorem ne_off {g i j : Nat} (h : i ≠ j) : (⟨g, i, none⟩ : Addr) ≠ ⟨g, j, none⟩ := fun e => h (by injection e)
theorem set8 {w : World} {g : Nat} {a0 a1 a2 a3 a4 a5 a6 a7 u1 u5 : Value} (h1 : w.cell? ⟨g, 1, none⟩ = some u1) (h5 : w.cell? ⟨g, 5, none⟩ = some u5) :
    ((((((((w.setCell ⟨g, 4, none⟩ a4).setCell ⟨g, 5, none⟩ a5).setCell ⟨g, 6, none⟩ a6).setCell ⟨g, 7, none⟩ a7).setCell ⟨g, 0, none⟩ a0).setCell ⟨g, 1, none⟩ a1).setCell ⟨g, 2, none⟩ a2).setCell ⟨g, 3, none⟩ a3).cell? ⟨g, 1, none⟩ = some a1 ∧
    ((((((((w.setCell ⟨g, 4, none⟩ a4).setCell ⟨g, 5, none⟩ a5).setCell ⟨g, 6, none⟩ a6).setCell ⟨g, 7, none⟩ a7).setCell ⟨g, 0, none⟩ a0).setCell ⟨g, 1, none⟩ a1).setCell ⟨g, 2, none⟩ a2).setCell ⟨g, 3, none⟩ a3).cell? ⟨g, 5, none⟩ = some a5 := by
  have o : ∀ (W : World) (i j : Nat) (v : Value), i ≠ j → (W.setCell ⟨g, i, none⟩ v).cell? ⟨g, j, none⟩ = W.cell? ⟨g, j, none⟩ := fun W i j v h => World.cell?_setCell_other W _ _ v (ne_off h)
  have sm : ∀ (W : World) (i : Nat) (v u : Value), W.cell? ⟨g, i, none⟩ = some u → (W.setCell ⟨g, i, none⟩ v).cell? ⟨g, i, none⟩ = some v := fun W i v u h => World.cell?_setCell_same' W _ v (by rw [h]; rfl)
  constructor
  · rw [o _ 3 1 _ (by decide), o _ 2 1 _ (by decide)]
    refine sm _ 1 _ u1 ?_
    rw [o _ 0 1 _ (by decide), o _ 7 1 _ (by decide), o _ 6 1 _ (by decide), o _ 5 1 _ (by decide), o _ 4 1 _ (by decide)]
    exact h1
  · rw [o _ 3 5 _ (by decide), o _ 2 5 _ (by decide), o _ 1 5 _ (by decide), o _ 0 5 _ (by decide), o _ 7 5 _ (by decide), o _ 6 5 _ (by decide)]
    refine sm _ 5 _ u5 ?_
    rw [o _ 4 5 _ (by decide)]
    exact h5
theorem set8B {B : Nat} {w0 w : World} {g : Nat} {a0 a1 a2 a3 a4 a5 a6 a7 u1 u5 : Value} (hb : Below B w0 w) (hg : B ≤ g) (h1 : w.cell? ⟨g, 1, none⟩ = some u1) (h5 : w.cell? ⟨g, 5, none⟩ = some u5) :
    Below B w0 ((((((((w.setCell ⟨g, 4, none⟩ a4).setCell ⟨g, 5, none⟩ a5).setCell ⟨g, 6, none⟩ a6).setCell ⟨g, 7, none⟩ a7).setCell ⟨g, 0, none⟩ a0).setCell ⟨g, 1, none⟩ a1).setCell ⟨g, 2, none⟩ a2).setCell ⟨g, 3, none⟩ a3).drew ∧ ((((((((w.setCell ⟨g, 4, none⟩ a4).setCell ⟨g, 5, none⟩ a5).setCell ⟨g, 6, none⟩ a6).setCell ⟨g, 7, none⟩ a7).setCell ⟨g, 0, none⟩ a0).setCell ⟨g, 1, none⟩ a1).setCell ⟨g, 2, none⟩ a2).setCell ⟨g, 3, none⟩ a3).drew.cell? ⟨g, 1, none⟩ = some a1 ∧ ((((((((w.setCell ⟨g, 4, none⟩ a4).setCell ⟨g, 5, none⟩ a5).setCell ⟨g, 6, none⟩ a6).setCell ⟨g, 7, none⟩ a7).setCell ⟨g, 0, none⟩ a0).setCell ⟨g, 1, none⟩ a1).setCell ⟨g, 2, none⟩ a2).setCell ⟨g, 3, none⟩ a3).drew.cell? ⟨g, 5, none⟩ = some a5 := by
  have h := set8 (a0 := a0) (a1 := a1) (a2 := a2) (a3 := a3) (a4 := a4) (a5 := a5) (a6 := a6) (a7 := a7) h1 h5
  have s4 := hb.setCell (p := ⟨g, 4, none⟩) hg a4
  have s5 := s4.setCell (p := ⟨g, 5, none⟩) hg a5
  have s6 := s5.setCell (p := ⟨g, 6, none⟩) hg a6
  have s7 := s6.setCell (p := ⟨g, 7, none⟩) hg a7
  have s0 := s7.setCell (p := ⟨g, 0, none⟩) hg a0
  have s1 := s0.setCell (p := ⟨g, 1, none⟩) hg a1
  have s2 := s1.setCell (p := ⟨g, 2, none⟩) hg a2
  have s3 := s2.setCell (p := ⟨g, 3, none⟩) hg a3
  refine ⟨below_drew s3, ?_, ?_⟩
  · rw [World.cell?_drew]; exact h.1
  · rw [World.cell?_drew]; exact h.2
set_option maxRecDepth 100000 in
set_option maxHeartbeats 4000000 in
theorem insert2 {A1 A2 A3 A4 : Option Addr} {n1 c1 n2 c2 n3 c3 n4 c4 sa sb g c B : Nat} {kinda kindb : Int} {ka kb : List Int} (w : World)
    (h : Two w g (.slice A1 n1 c1, sa, kinda, .slice A2 n2 c2) (.slice A3 n3 c3, sb, kindb, .slice A4 n4 c4)) (hfz : ∀ j, w.frozen? ⟨g, j, none⟩ = false) (hgl : g < w.heap.size)
    (ha : Rb w w.heap.size A1 ka) (hb : Rb w w.heap.size A3 kb) (ba : Byt ka) (bb : Byt kb) (h1 : ka.length = n1) (h3 : kb.length = n3) (hlt : entCmp kb sb ka sa < 0) (hBg : B ≤ g) :
    Calls Try.prog 48 #[.slice (some ⟨g, 0, none⟩) 2 c, .int .i64 0, .int .i64 2, .func (.func 7) #[] #[]] w fun e w' => (∃ v, e = .returned v) ∧ Below B w w' ∧
      w'.cell? ⟨g, 1, none⟩ = some (.int .u64 sb) ∧ w'.cell? ⟨g, 5, none⟩ = some (.int .u64 sa) := by
  obtain ⟨q0, q1, q2, q3, q4, q5, q6, q7⟩ := h
  have hcmp := fun W (hx : Rb W w.heap.size A1 ka) (hy : Rb W w.heap.size A3 kb) (hs : w.heap.size ≤ W.heap.size) => Lib.hid (batCompare (A2 := A4) (A4 := A2) (c1 := c3) (c3 := c1) (n2 := n4) (c2 := c4) (n4 := n2) (c4 := c2) (sa := sb) (sb := sa) (kinda := kindb) (kindb := kinda) W hy hx bb ba h3 h1 hs)
  obtain ⟨r, hr⟩ : ∃ r, entCmp kb sb ka sa = r := ⟨_, rfl⟩
  rw [hr] at hcmp hlt
  have f0 := hfz 0
  have f1 := hfz 1
  have f2 := hfz 2
  have f3 := hfz 3
  have f4 := hfz 4
  have f5 := hfz 5
  have f6 := hfz 6
  have f7 := hfz 7
  clear hr hfz
  have hw0 : IntKind.i64.wrap 0 = 0 := by decide
  go_enter Try.func48, Try.ntmps48
  go_wp2
  go_loopw [8] (fun iv_ wr => (iv_ = .int .i64 1 ∧ wr = w) ∨ (iv_ = .int .i64 2 ∧ Below B w wr ∧ wr.cell? ⟨g, 1, none⟩ = some (.int .u64 sb) ∧ wr.cell? ⟨g, 5, none⟩ = some (.int .u64 sa))) (fun i _ => 2 - (intOf i).toNat)
  case atStart => exact .inl ⟨rfl, rfl⟩
  case round =>
    rcases hrel with ⟨rfl, rfl⟩ | ⟨rfl, hb', r1, r5⟩
    · go_wp2
      go_loopw [9] (fun jv wx => (jv = .int .i64 1 ∧ wx = wr) ∨ (jv = .int .i64 0 ∧ Below B wr wx ∧ wx.cell? ⟨g, 1, none⟩ = some (.int .u64 sb) ∧ wx.cell? ⟨g, 5, none⟩ = some (.int .u64 sa))) (fun j _ => (intOf j).toNat)
      case atStart => exact .inl ⟨rfl, rfl⟩
      case round =>
        rcases hrel with ⟨rfl, rfl⟩ | ⟨rfl, hb', r1, r5⟩
        · go_wp2
          go_region_held3 (fun w' => w'.cell? ⟨g, 0, none⟩ = some (.slice A1 n1 c1) ∧ w'.cell? ⟨g, 1, none⟩ = some (.int .u64 sa) ∧ w'.cell? ⟨g, 2, none⟩ = some (.int .i64 kinda) ∧ w'.cell? ⟨g, 3, none⟩ = some (.slice A2 n2 c2) ∧ w'.cell? ⟨g, 4, none⟩ = some (.slice A3 n3 c3) ∧ w'.cell? ⟨g, 5, none⟩ = some (.int .u64 sb) ∧ w'.cell? ⟨g, 6, none⟩ = some (.int .i64 kindb) ∧ w'.cell? ⟨g, 7, none⟩ = some (.slice A4 n4 c4))
            (go_keep)
            (first
              | (go_at_call 7
                 refine (hcmp wr.drew ha hb (Nat.le_refl _)).out.mono ?_
                 rintro e w4 ⟨rfl, hb4⟩
                 have p0 := (hb4.cell (p := ⟨g, 0, none⟩) hgl).trans q0
                 have p1 := (hb4.cell (p := ⟨g, 1, none⟩) hgl).trans q1
                 have p2 := (hb4.cell (p := ⟨g, 2, none⟩) hgl).trans q2
                 have p3 := (hb4.cell (p := ⟨g, 3, none⟩) hgl).trans q3
                 have p4 := (hb4.cell (p := ⟨g, 4, none⟩) hgl).trans q4
                 have p5 := (hb4.cell (p := ⟨g, 5, none⟩) hgl).trans q5
                 have p6 := (hb4.cell (p := ⟨g, 6, none⟩) hgl).trans q6
                 have p7 := (hb4.cell (p := ⟨g, 7, none⟩) hgl).trans q7
                 have z0 : w4.frozen? ⟨g, 0, none⟩ = false := (hb4.frozen (p := ⟨g, 0, none⟩) hgl).trans f0
                 have z1 : w4.frozen? ⟨g, 1, none⟩ = false := (hb4.frozen (p := ⟨g, 1, none⟩) hgl).trans f1
                 have z2 : w4.frozen? ⟨g, 2, none⟩ = false := (hb4.frozen (p := ⟨g, 2, none⟩) hgl).trans f2
                 have z3 : w4.frozen? ⟨g, 3, none⟩ = false := (hb4.frozen (p := ⟨g, 3, none⟩) hgl).trans f3
                 have z4 : w4.frozen? ⟨g, 4, none⟩ = false := (hb4.frozen (p := ⟨g, 4, none⟩) hgl).trans f4
                 have z5 : w4.frozen? ⟨g, 5, none⟩ = false := (hb4.frozen (p := ⟨g, 5, none⟩) hgl).trans f5
                 have z6 : w4.frozen? ⟨g, 6, none⟩ = false := (hb4.frozen (p := ⟨g, 6, none⟩) hgl).trans f6
                 have z7 : w4.frozen? ⟨g, 7, none⟩ = false := (hb4.frozen (p := ⟨g, 7, none⟩) hgl).trans f7)
              | fail)
          all_goals go_wp2
          all_goals go_region
          all_goals go_wp2
          have hb5 : Below B wr w4 := ⟨hb4.os, hb4.tape, hb4.output, hb4.size, fun k hk => hb4.block k (Nat.lt_trans (Nat.lt_of_lt_of_le hk hBg) hgl)⟩
          go_roundw
          case rel =>
            exact .inr ⟨rfl, set8B hb5 hBg p1 p5⟩
          case measure => simp [intOf]
        · go_wp2
          go_quiet (fail)
          go_wp2
          go_roundw
          case rel => exact .inr ⟨rfl, below_drewN (hb'.mono (by omega)) _, r1, r5⟩
          case measure => simp [intOf]
    · go_wp2
      go_end0
      exact ⟨⟨_, rfl⟩, hb', r1, r5⟩
end Go.Proofs.Ytpjdlcdkldomlaa
