/- BatchBack: small; bootprintkit.Batch. -/
import Derived.Test.YtpjdlcdkldomlaaBatW
namespace Go.Proofs.Ytpjdlcdkldomlaa
open Go.RowKit

def SmallPost (w : World) (e : Ending) (w' : World) : Prop := (∃ b, e = .returned (.bool b)) ∧ Below w.heap.size w w'
set_option maxRecDepth 100000 in
set_option maxHeartbeats 2000000 in
theorem lawSmall {Aw : Option Addr} {nw cw B seq : Nat} {ws : List Wr} (w : World) (hf : RbW w B Aw ws) (hn : ws.length = nw) (hB : B ≤ w.heap.size) (hnl : nw ≤ 9223372036854775807) :
    Calls Try.prog 14 #[.agg #[.int .u64 seq, .slice Aw nw cw]] w (SmallPost w) := by
  have bB : Bk (w.alloc (.cells #[.int .u64 seq, .slice Aw nw cw] 36)) w.heap.size 36 #[.int .u64 seq, .slice Aw nw cw] := Bk.new w _ _
  have hb0 : Below w.heap.size w (w.alloc (.cells #[.int .u64 seq, .slice Aw nw cw] 36)) := (Below.refl _ w).alloc (Nat.le_refl _) _
  have hf1 := hf.keep (w' := w.alloc (.cells #[.int .u64 seq, .slice Aw nw cw] 36)) (fun p hp => World.cell?_alloc_lt _ _ _ (by omega))
  obtain ⟨w1, hw1⟩ : ∃ w1, w.alloc (.cells #[.int .u64 seq, .slice Aw nw cw] 36) = w1 := ⟨_, rfl⟩
  rw [hw1] at bB hb0 hf1
  have HW := Lib.hid hw1
  have HN := Lib.hid hn
  have k1 : w1.cell? ⟨w.heap.size, 1, none⟩ = some (.slice Aw nw cw) := bB.cell 1
  clear hw1 hn
  go_enter Try.func14, Try.ntmps14
  go_wp2_with fail
  rw [HW.out]
  go_loopw [3, 4] (fun nv iv_ wr => ∃ (j : Nat) (v : Int) (d : Nat), j ≤ nw ∧ iv_ = .int .i64 j ∧ nv = .int .i64 v ∧ wr = w1.drewN d) (fun _ i _ => nw - (intOf i).toNat)
  case atStart => exact ⟨0, 0, 0, by omega, rfl, rfl, rfl⟩
  case round =>
    obtain ⟨j, v, d, hj, rfl, rfl, rfl⟩ := hrel
    have k1' : (w1.drewN d).cell? ⟨w.heap.size, 1, none⟩ = some (.slice Aw nw cw) := k1
    by_cases hlt : j < nw
    · have hlt' : (j : Int) < (nw : Int) := by omega
      obtain ⟨x, hx⟩ : ∃ x, ws[j]? = some x := ⟨_, List.getElem?_eq_getElem (by rw [HN.out]; exact hlt)⟩
      obtain ⟨b, o, A1, c1, A2, c2, rfl, hbb, e1, e2, e3, hl1, hr1, hl2, hr2, -⟩ := hf1.get hx
      have e2' : (w1.drewN d).cell? ⟨b, o + j * 3 + 1, none⟩ = some (.slice A1 x.key.length c1) := e2
      have e3' : (w1.drewN d).cell? ⟨b, o + j * 3 + 2, none⟩ = some (.slice A2 x.val.length c2) := e3
      clear hx hl1 hr1 hl2 hr2
      go_wp2_with fail
      go_region
      all_goals go_wp2
      all_goals go_roundw
      all_goals first
        | (case rel => exact ⟨j + 1, _, _, by omega, by go_num, rfl, rfl⟩)
        | (case measure => simp [intOf]; omega)
    · have hlt' : decide ((j : Int) < (nw : Int)) = false := by simp; omega
      go_wp2
      all_goals go_ret
      all_goals exact ⟨⟨_, rfl⟩, below_drewN hb0 d⟩

set_option maxRecDepth 100000 in
set_option maxHeartbeats 4000000 in
theorem kitBatch {A1 A2 : Option Addr} {c1 c2 B n seq : Nat} {ws : List Wr} (w : World) (ha : RbW w B A1 ws) (hb : RbW w B A2 ws) (hy : ∀ x ∈ ws, x.key.length ≤ maxLen ∧ x.val.length ≤ maxLen) (hn : ws.length = n) (hB : B ≤ w.heap.size) (hnl : n ≤ 9223372036854775807) :
    Calls Try.prog 18 #[.agg #[.int .u64 seq, .slice A1 n c1], .agg #[.int .u64 seq, .slice A2 n c2]] w fun e w' => e = .returned (.bool true) ∧ Below w.heap.size w w' := by
  have b1 := (Bk.new w 36 #[.int .u64 seq, .slice A1 n c1]).alloc (.cells #[.int .u64 seq, .slice A2 n c2] 36)
  have b2 : Bk ((w.alloc (.cells #[.int .u64 seq, .slice A1 n c1] 36)).alloc (.cells #[.int .u64 seq, .slice A2 n c2] 36)) (w.heap.size + 1) 36 #[.int .u64 seq, .slice A2 n c2] := by
    have h := Bk.new (w.alloc (.cells #[.int .u64 seq, .slice A1 n c1] 36)) 36 #[.int .u64 seq, .slice A2 n c2]
    simpa using h
  have hb0 : Below w.heap.size w ((w.alloc (.cells #[.int .u64 seq, .slice A1 n c1] 36)).alloc (.cells #[.int .u64 seq, .slice A2 n c2] 36)) := ((Below.refl _ w).alloc (Nat.le_refl _) _).alloc (by simp) _
  have ha1 := ha.below (hb0.mono hB)
  have hb1 := hb.below (hb0.mono hB)
  obtain ⟨w1, hw1⟩ : ∃ w1, (w.alloc (.cells #[.int .u64 seq, .slice A1 n c1] 36)).alloc (.cells #[.int .u64 seq, .slice A2 n c2] 36) = w1 := ⟨_, rfl⟩
  have hs1 : w1.heap.size = w.heap.size + 2 := by rw [← hw1]; simp
  rw [hw1] at b1 b2 hb0 ha1 hb1
  have HW := Lib.hid hw1
  have HN := Lib.hid hn
  have HY := Lib.hid hy
  have hself : ((seq : Int) != (seq : Int)) = false := by simp
  have hnself : ((n : Int) != (n : Int)) = false := by simp
  have k0 : w1.cell? ⟨w.heap.size, 0, none⟩ = some (.int .u64 seq) := b1.cell 0
  have k1 : w1.cell? ⟨w.heap.size, 1, none⟩ = some (.slice A1 n c1) := b1.cell 1
  have k2 : w1.cell? ⟨w.heap.size + 1, 0, none⟩ = some (.int .u64 seq) := b2.cell 0
  have k3 : w1.cell? ⟨w.heap.size + 1, 1, none⟩ = some (.slice A2 n c2) := b2.cell 1
  clear hw1 hn hy
  go_enter Try.func18, Try.ntmps18
  go_wp2_with fail
  rw [HW.out]
  go_wp2_with fail
  go_loopw [5] (fun iv_ wr => ∃ (j : Nat), j ≤ n ∧ iv_ = .int .i64 j ∧ Below w1.heap.size w1 wr) (fun i _ => n - (intOf i).toNat)
  case atStart => exact ⟨0, by omega, rfl, Below.refl _ _⟩
  case round =>
    obtain ⟨j, hj, rfl, hbr⟩ := hrel
    have b1r := b1.below hbr (by omega)
    have b2r := b2.below hbr (by omega)
    have k1' : wr.cell? ⟨w.heap.size, 1, none⟩ = some (.slice A1 n c1) := b1r.cell 1
    have k3' : wr.cell? ⟨w.heap.size + 1, 1, none⟩ = some (.slice A2 n c2) := b2r.cell 1
    clear k0 k1 k2 k3
    by_cases hlt : j < n
    · have hlt' : (j : Int) < (n : Int) := by omega
      obtain ⟨x, hx⟩ : ∃ x, ws[j]? = some x := ⟨_, List.getElem?_eq_getElem (by rw [HN.out]; exact hlt)⟩
      have hxy := HY.out x (List.mem_of_getElem? hx)
      obtain ⟨b, o, D1, d1, D2, d2, rfl, hbb, e1, e2, e3, -, hr1, -, hr2, -⟩ := (ha1.below (hbr.mono (by omega))).get hx
      obtain ⟨b', o', F1, f1, F2, f2, rfl, hbb', g1, g2, g3, -, hq1, -, hq2, -⟩ := (hb1.below (hbr.mono (by omega))).get hx
      have hkk : (x.kind != x.kind) = false := by simp
      have hsr := hbr.size
      clear hx
      go_wp2_with fail
      go_region_held3 (fun w' => w'.cell? ⟨w.heap.size, 1, none⟩ = some (.slice (some ⟨b, o, none⟩) n c1) ∧ w'.cell? ⟨w.heap.size + 1, 1, none⟩ = some (.slice (some ⟨b', o', none⟩) n c2) ∧
          w'.cell? ⟨b, o + j * 3, none⟩ = some (.int .i64 x.kind) ∧ w'.cell? ⟨b, o + j * 3 + 1, none⟩ = some (.slice D1 x.key.length d1) ∧ w'.cell? ⟨b, o + j * 3 + 2, none⟩ = some (.slice D2 x.val.length d2) ∧
          w'.cell? ⟨b', o' + j * 3, none⟩ = some (.int .i64 x.kind) ∧ w'.cell? ⟨b', o' + j * 3 + 1, none⟩ = some (.slice F1 x.key.length f1) ∧ w'.cell? ⟨b', o' + j * 3 + 2, none⟩ = some (.slice F2 x.val.length f2))
        (go_keep) (fail)
      · have bk1 : Bk (((wr.alloc (.cells #[.int .i64 x.kind, .slice D1 x.key.length d1, .slice D2 x.val.length d2] 31)).alloc (.cells #[.int .i64 x.kind, .slice F1 x.key.length f1, .slice F2 x.val.length f2] 31)).drew) wr.heap.size 31 #[.int .i64 x.kind, .slice D1 x.key.length d1, .slice D2 x.val.length d2] := ((Bk.new wr _ _).alloc _).drew
        have bk2 : Bk (((wr.alloc (.cells #[.int .i64 x.kind, .slice D1 x.key.length d1, .slice D2 x.val.length d2] 31)).alloc (.cells #[.int .i64 x.kind, .slice F1 x.key.length f1, .slice F2 x.val.length f2] 31)).drew) (wr.heap.size + 1) 31 #[.int .i64 x.kind, .slice F1 x.key.length f1, .slice F2 x.val.length f2] := by
          have h := (Bk.new (wr.alloc (.cells #[.int .i64 x.kind, .slice D1 x.key.length d1, .slice D2 x.val.length d2] 31)) 31 #[.int .i64 x.kind, .slice F1 x.key.length f1, .slice F2 x.val.length f2]).drew
          simpa using h
        have rk1 := Rd.drew (Rd.alloc (Rd.alloc hr1 (by omega) (.cells #[.int .i64 x.kind, .slice D1 x.key.length d1, .slice D2 x.val.length d2] 31)) (by simp; omega) (.cells #[.int .i64 x.kind, .slice F1 x.key.length f1, .slice F2 x.val.length f2] 31))
        have rk2 := Rd.drew (Rd.alloc (Rd.alloc hq1 (by omega) (.cells #[.int .i64 x.kind, .slice D1 x.key.length d1, .slice D2 x.val.length d2] 31)) (by simp; omega) (.cells #[.int .i64 x.kind, .slice F1 x.key.length f1, .slice F2 x.val.length f2] 31))
        have rk3 := Rd.drew (Rd.alloc (Rd.alloc hr2 (by omega) (.cells #[.int .i64 x.kind, .slice D1 x.key.length d1, .slice D2 x.val.length d2] 31)) (by simp; omega) (.cells #[.int .i64 x.kind, .slice F1 x.key.length f1, .slice F2 x.val.length f2] 31))
        have rk4 := Rd.drew (Rd.alloc (Rd.alloc hq2 (by omega) (.cells #[.int .i64 x.kind, .slice D1 x.key.length d1, .slice D2 x.val.length d2] 31)) (by simp; omega) (.cells #[.int .i64 x.kind, .slice F1 x.key.length f1, .slice F2 x.val.length f2] 31))
        have hbW := ((hbr.alloc hbr.size (.cells #[.int .i64 x.kind, .slice D1 x.key.length d1, .slice D2 x.val.length d2] 31)).alloc (by simp; omega) (.cells #[.int .i64 x.kind, .slice F1 x.key.length f1, .slice F2 x.val.length f2] 31)).drew
        go_wp2_with fail
        obtain ⟨W, hW⟩ : ∃ W, ((wr.alloc (.cells #[.int .i64 x.kind, .slice D1 x.key.length d1, .slice D2 x.val.length d2] 31)).alloc (.cells #[.int .i64 x.kind, .slice F1 x.key.length f1, .slice F2 x.val.length f2] 31)).drew = W := ⟨_, rfl⟩
        rw [hW] at bk1 bk2 rk1 rk2 rk3 rk4 hbW ⊢
        clear hW
        refine (kitBytes (xs := x.key) (ys := x.key) W rk1 rk2 hxy.1 hxy.1 rfl rfl).mono ?_
        rintro en w5 ⟨rfl, d5, rfl⟩
        have m1 : (W.drewN d5).cell? ⟨wr.heap.size, 2, none⟩ = some (.slice D2 x.val.length d2) := bk1.cell 2
        have m2 : (W.drewN d5).cell? ⟨wr.heap.size + 1, 2, none⟩ = some (.slice F2 x.val.length f2) := bk2.cell 2
        have hb5 := below_drewN hbW d5
        have rk3' := Rd.drewN rk3 d5
        have rk4' := Rd.drewN rk4 d5
        obtain ⟨w5, hw5⟩ : ∃ w5, W.drewN d5 = w5 := ⟨_, rfl⟩
        rw [hw5] at m1 m2 hb5 rk3' rk4' ⊢
        clear hw5 bk1 bk2 rk1 rk2 rk3 rk4 hbW
        rw [show eqb x.key x.key = true from by simp [eqb]]
        go_wp2_with fail
        refine (kitBytes (xs := x.val) (ys := x.val) w5 rk3' rk4' hxy.2 hxy.2 rfl rfl).mono ?_
        rintro en w6 ⟨rfl, d6, rfl⟩
        rw [show eqb x.val x.val = true from by simp [eqb]]
        go_wp2_with fail
        go_roundw
        case rel => exact ⟨j + 1, by omega, by go_num, below_drewN hb5 d6⟩
        case measure => simp [intOf]; omega
      · have bk1 : Bk (((wr.alloc (.cells #[.int .i64 x.kind, .slice F1 x.key.length f1, .slice F2 x.val.length f2] 31)).alloc (.cells #[.int .i64 x.kind, .slice D1 x.key.length d1, .slice D2 x.val.length d2] 31)).drew) wr.heap.size 31 #[.int .i64 x.kind, .slice F1 x.key.length f1, .slice F2 x.val.length f2] := ((Bk.new wr _ _).alloc _).drew
        have bk2 : Bk (((wr.alloc (.cells #[.int .i64 x.kind, .slice F1 x.key.length f1, .slice F2 x.val.length f2] 31)).alloc (.cells #[.int .i64 x.kind, .slice D1 x.key.length d1, .slice D2 x.val.length d2] 31)).drew) (wr.heap.size + 1) 31 #[.int .i64 x.kind, .slice D1 x.key.length d1, .slice D2 x.val.length d2] := by
          have h := (Bk.new (wr.alloc (.cells #[.int .i64 x.kind, .slice F1 x.key.length f1, .slice F2 x.val.length f2] 31)) 31 #[.int .i64 x.kind, .slice D1 x.key.length d1, .slice D2 x.val.length d2]).drew
          simpa using h
        have rk1 := Rd.drew (Rd.alloc (Rd.alloc hr1 (by omega) (.cells #[.int .i64 x.kind, .slice F1 x.key.length f1, .slice F2 x.val.length f2] 31)) (by simp; omega) (.cells #[.int .i64 x.kind, .slice D1 x.key.length d1, .slice D2 x.val.length d2] 31))
        have rk2 := Rd.drew (Rd.alloc (Rd.alloc hq1 (by omega) (.cells #[.int .i64 x.kind, .slice F1 x.key.length f1, .slice F2 x.val.length f2] 31)) (by simp; omega) (.cells #[.int .i64 x.kind, .slice D1 x.key.length d1, .slice D2 x.val.length d2] 31))
        have rk3 := Rd.drew (Rd.alloc (Rd.alloc hr2 (by omega) (.cells #[.int .i64 x.kind, .slice F1 x.key.length f1, .slice F2 x.val.length f2] 31)) (by simp; omega) (.cells #[.int .i64 x.kind, .slice D1 x.key.length d1, .slice D2 x.val.length d2] 31))
        have rk4 := Rd.drew (Rd.alloc (Rd.alloc hq2 (by omega) (.cells #[.int .i64 x.kind, .slice F1 x.key.length f1, .slice F2 x.val.length f2] 31)) (by simp; omega) (.cells #[.int .i64 x.kind, .slice D1 x.key.length d1, .slice D2 x.val.length d2] 31))
        have hbW := ((hbr.alloc hbr.size (.cells #[.int .i64 x.kind, .slice F1 x.key.length f1, .slice F2 x.val.length f2] 31)).alloc (by simp; omega) (.cells #[.int .i64 x.kind, .slice D1 x.key.length d1, .slice D2 x.val.length d2] 31)).drew
        go_wp2_with fail
        obtain ⟨W, hW⟩ : ∃ W, ((wr.alloc (.cells #[.int .i64 x.kind, .slice F1 x.key.length f1, .slice F2 x.val.length f2] 31)).alloc (.cells #[.int .i64 x.kind, .slice D1 x.key.length d1, .slice D2 x.val.length d2] 31)).drew = W := ⟨_, rfl⟩
        rw [hW] at bk1 bk2 rk1 rk2 rk3 rk4 hbW ⊢
        clear hW
        refine (kitBytes (xs := x.key) (ys := x.key) W rk1 rk2 hxy.1 hxy.1 rfl rfl).mono ?_
        rintro en w5 ⟨rfl, d5, rfl⟩
        have m1 : (W.drewN d5).cell? ⟨wr.heap.size, 2, none⟩ = some (.slice F2 x.val.length f2) := bk1.cell 2
        have m2 : (W.drewN d5).cell? ⟨wr.heap.size + 1, 2, none⟩ = some (.slice D2 x.val.length d2) := bk2.cell 2
        have hb5 := below_drewN hbW d5
        have rk3' := Rd.drewN rk3 d5
        have rk4' := Rd.drewN rk4 d5
        obtain ⟨w5, hw5⟩ : ∃ w5, W.drewN d5 = w5 := ⟨_, rfl⟩
        rw [hw5] at m1 m2 hb5 rk3' rk4' ⊢
        clear hw5 bk1 bk2 rk1 rk2 rk3 rk4 hbW
        rw [show eqb x.key x.key = true from by simp [eqb]]
        go_wp2_with fail
        refine (kitBytes (xs := x.val) (ys := x.val) w5 rk3' rk4' hxy.2 hxy.2 rfl rfl).mono ?_
        rintro en w6 ⟨rfl, d6, rfl⟩
        rw [show eqb x.val x.val = true from by simp [eqb]]
        go_wp2_with fail
        go_roundw
        case rel => exact ⟨j + 1, by omega, by go_num, below_drewN hb5 d6⟩
        case measure => simp [intOf]; omega
    · have hlt' : decide ((j : Int) < (n : Int)) = false := by simp; omega
      go_wp2
      go_ret
      exact ⟨rfl, hb0.trans (hbr.mono (by omega))⟩
end Go.Proofs.Ytpjdlcdkldomlaa
