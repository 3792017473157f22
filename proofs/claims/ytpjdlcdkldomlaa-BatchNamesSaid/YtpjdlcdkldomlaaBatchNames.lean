/- The statement BatchNames: the chapter's examples come out as it tells. The walk. -/
import Derived.Test.YtpjdlcdkldomlaaBatL
namespace Go.Proofs.Ytpjdlcdkldomlaa
open Go.RowKit

theorem byteinfo' : (Try.prog.info? 5).map (fun i => (i.zero, i.size, i.bytes)) = some (some (.int .u8 0), 1, 1) := by kernel_rfl
theorem bv_zeros' (n : Nat) : (madeCells #[Value.int .u8 0] n).toList = bv (List.replicate n 0) := by
  rw [toList_madeCells_one, bv, List.map_replicate]
theorem mk4097 : ∃ (C : Array Value) (zs : List Int), C.toList = bv zs ∧ zs.length = 4097 ∧ Byt zs ∧ ∀ w : World, (Instr.makeSlice 22 (.int .i64 4097) (.int .i64 4097)).run Try.prog w = .ok (.slice (some ⟨w.heap.size, 0, none⟩) 4097 4097) (w.alloc (.cells C 5)) :=
  ⟨madeCells #[Value.int .u8 0] 4097, List.replicate 4097 0, bv_zeros' _, List.length_replicate .., fun x hx => by rw [List.eq_of_mem_replicate hx]; omega, fun w => by
    obtain ⟨i, hi, hz0, hz1, hz2⟩ := info_parts byteinfo'
    have h1 := run_make (P := Try.prog) w 22 5 i (.int .u8 0) Try.underlying22 hi hz0 .i64 .i64 4097 4097 (by omega) (by omega) (by rw [hz2]; omega) (by omega)
    rw [h1, hz1, show (4097 : Int).toNat = 4097 from rfl, Nat.mul_one]
    rfl⟩
/-- One write that lies in one block. -/
theorem RbW.one {w : World} {B : Nat} {A A1 A2 : Option Addr} {n1 n2 c1 c2 : Nat} {x0 : Wr} (h : Rd w B A [.int .i64 x0.kind, .slice A1 n1 c1, .slice A2 n2 c2])
    (e1 : x0.key.length = n1) (e2 : x0.val.length = n2) (l1 : n1 ≤ c1) (l2 : n2 ≤ c2) 
    (r1 : Rb w B A1 x0.key) (r2 : Rb w B A2 x0.val) (z1 : A1 = none → c1 = 0) (z2 : A2 = none → c2 = 0) : RbW w B A [x0] :=
  ⟨_, h, fun i x hi => by
    subst e1 e2
    match i, hi with
    | 0, hi => cases hi; exact ⟨A1, c1, A2, c2, rfl, rfl, rfl, l1, r1, l2, r2, z1, z2⟩
    | i + 1, hi => cases hi⟩
theorem chkD (zs : List Int) (h : zs.length = 4097) : batChk 1 [⟨1, zs, []⟩] = 3 := by
  have h1 : wrRight ⟨1, zs, []⟩ = true := by simp [wrRight, h]
  have h2 : wrShort ⟨1, zs, []⟩ = false := by simp [wrShort, h]
  simp [batChk, h1, h2]
theorem lastG : lastOf 9 2 = 10 := by decide +kernel
theorem enE : enChk ⟨[97], 72057594037927936, 1, []⟩ = 3 := by decide +kernel
theorem enF : enChk ⟨[97], 1, 3, []⟩ = 2 := by decide +kernel

set_option maxHeartbeats 4000000 in
set_option maxRecDepth 100000 in
theorem batchNames_walk (w : World) : Calls Try.prog 4 #[] w fun e w' => e = .returned (.bool true) ∧ Below w.heap.size w w' := by
  obtain ⟨C, zs, hC, hzs, hbz, hmk⟩ := mk4097
  go_enter Try.func4, Try.ntmps4
  go_wp2_with fail
  have r1 : Rb ((w.alloc (.cells C 5)).alloc (.cells #[.int .i64 1, .slice (some ⟨w.heap.size, 0, none⟩) 4097 4097, .slice none 0 0] 31)) (w.heap.size + 1) (some ⟨w.heap.size, 0, none⟩) zs := by
    have h := Rd.lit w C 5
    rw [hC] at h
    exact Rd.alloc h (by simp) _
  have bW : Bk ((w.alloc (.cells C 5)).alloc (.cells #[.int .i64 1, .slice (some ⟨w.heap.size, 0, none⟩) 4097 4097, .slice none 0 0] 31)) (w.heap.size + 1) 31 #[.int .i64 1, .slice (some ⟨w.heap.size, 0, none⟩) 4097 4097, .slice none 0 0] := by
    have h := Bk.new (w.alloc (.cells C 5)) 31 #[.int .i64 1, .slice (some ⟨w.heap.size, 0, none⟩) 4097 4097, .slice none 0 0]
    simpa using h
  have hb0 : Below w.heap.size w ((w.alloc (.cells C 5)).alloc (.cells #[.int .i64 1, .slice (some ⟨w.heap.size, 0, none⟩) 4097 4097, .slice none 0 0] 31)) := ((Below.refl _ w).alloc (Nat.le_refl _) _).alloc (by simp) _
  obtain ⟨W1, hW1⟩ : ∃ W1, ((w.alloc (.cells C 5)).alloc (.cells #[.int .i64 1, .slice (some ⟨w.heap.size, 0, none⟩) 4097 4097, .slice none 0 0] 31)) = W1 := ⟨_, rfl⟩
  have hs1 : W1.heap.size = w.heap.size + 2 := by rw [← hW1]; simp
  rw [hW1] at r1 bW hb0 ⊢
  clear hW1 hmk hC
  refine (lives_true W1).mono ?_
  rintro e w2 ⟨rfl, hb⟩
  have r2 := r1.below (hb.mono (by omega))
  have b2 := bW.below hb (by omega)
  have hb2 := hb0.trans (hb.mono hb0.size)
  have hs2 := hb.size
  clear hb hb0 r1 bW
  have k0 : w2.cell? ⟨w.heap.size + 1, 0, none⟩ = some (.int .i64 1) := b2.cell 0
  have k1 : w2.cell? ⟨w.heap.size + 1, 1, none⟩ = some (.slice (some ⟨w.heap.size, 0, none⟩) 4097 4097) := b2.cell 1
  have k2 : w2.cell? ⟨w.heap.size + 1, 2, none⟩ = some (.slice none 0 0) := b2.cell 2
  go_wp2_with fail
  have rw1 : RbW (w2.alloc (.cells #[.int .i64 1, .slice (some ⟨w.heap.size, 0, none⟩) 4097 4097, .slice none 0 0] 31)) (w2.heap.size + 1) (some ⟨w2.heap.size, 0, none⟩) [⟨1, zs, []⟩] :=
    RbW.one (Rd.lit' (w := w2) (cs := #[.int .i64 1, .slice (some ⟨w.heap.size, 0, none⟩) 4097 4097, .slice none 0 0]) (t := 31) (g := w2.heap.size) rfl)
      hzs rfl (Nat.le_refl _) (Nat.le_refl _) ((Rd.alloc r2 (by omega) _).more (by omega)) Rd.nil (fun h => by cases h) (fun _ => rfl)
  have hb3 := hb2.alloc hb2.size (.cells #[.int .i64 1, .slice (some ⟨w.heap.size, 0, none⟩) 4097 4097, .slice none 0 0] 31)
  have hck := batCheck (Aw := some ⟨w2.heap.size, 0, none⟩) (nw := 1) (cw := 1) (seq := 1) _ rw1 (fun x hx => by simp at hx; subst hx; exact ⟨hbz, fun x hx => by simp at hx⟩) rfl (by simp) (by omega) (by omega)
  rw [chkD zs hzs] at hck
  refine hck.mono ?_
  rintro e w4 ⟨rfl, hb4⟩
  have hb5 := hb3.trans (hb4.mono hb3.size)
  clear hb3 hb4 hck rw1 r2 b2 k0 k1 k2 hb2
  have cv1 := conv_const w4 #[.int .u8 97] 1 1 w4.heap.size rfl
  simp only [List.size_toArray, List.length_cons, List.length_nil, Nat.reduceAdd] at cv1
  have hce := batCheckEntry (A1 := some ⟨w4.heap.size, 0, none⟩) (A2 := none) (c1 := 1) (c2 := 0) (n1 := 1) (n2 := 0) ⟨[97], 72057594037927936, 1, []⟩ (w4.alloc (.cells #[.int .u8 97] 5 (1, 2))) rfl rfl
  rw [enE] at hce
  go_wp2_with fail
  refine hce.mono ?_
  rintro e w5 ⟨rfl, hb6⟩
  have hb7 := (hb5.alloc hb5.size (.cells #[.int .u8 97] 5 (1, 2))).trans (hb6.mono (hb5.alloc hb5.size _).size)
  clear hb5 hb6 hce cv1
  have cv1 := conv_const w5 #[.int .u8 97] 1 1 w5.heap.size rfl
  simp only [List.size_toArray, List.length_cons, List.length_nil, Nat.reduceAdd] at cv1
  have hce := batCheckEntry (A1 := some ⟨w5.heap.size, 0, none⟩) (A2 := none) (c1 := 1) (c2 := 0) (n1 := 1) (n2 := 0) ⟨[97], 1, 3, []⟩ (w5.alloc (.cells #[.int .u8 97] 5 (1, 2))) rfl rfl
  rw [enF] at hce
  go_wp2_with fail
  refine hce.mono ?_
  rintro e w6 ⟨rfl, hb6⟩
  have hb8 := (hb7.alloc hb7.size (.cells #[.int .u8 97] 5 (1, 2))).trans (hb6.mono (hb7.alloc hb7.size _).size)
  clear hb7 hb6 hce cv1
  go_wp2_with fail
  refine (lawPutN ⟨#[97]⟩ ⟨#[]⟩ 1 0 [97] [] w6 rfl rfl rfl rfl (by omega) (by omega)).mono ?_
  rintro e w7 ⟨A3, c3, A4, c4, rfl, hb9, r3, r4, l3, l4, k3, k4⟩
  go_wp2_with fail
  refine (lawPutN ⟨#[98]⟩ ⟨#[]⟩ 1 0 [98] [] w7 rfl rfl rfl rfl (by omega) (by omega)).mono ?_
  rintro e w8 ⟨A5, c5, A6, c6, rfl, hb10, r5, r6, l5, l6, k5, k6⟩
  have hb11 := hb8.trans ((hb9.trans (hb10.mono hb9.size)).mono hb8.size)
  have hb12 := hb11.alloc hb11.size (.cells #[.int .i64 1, .slice A3 1 c3, .slice A4 0 c4, .int .i64 1, .slice A5 1 c5, .slice A6 0 c6] 31)
  have hla := batLast (Aw := some ⟨w8.heap.size, 0, none⟩) (nw := 2) (cw := 2) (seq := 9) (w8.alloc (.cells #[.int .i64 1, .slice A3 1 c3, .slice A4 0 c4, .int .i64 1, .slice A5 1 c5, .slice A6 0 c6] 31)) (by omega) (by omega)
  rw [lastG] at hla
  go_wp2_with fail
  refine hla.mono ?_
  rintro e w9 ⟨rfl, hb13⟩
  have hb14 := hb12.trans (hb13.mono hb12.size)
  go_wp2
  go_ret
  exact ⟨rfl, hb14⟩
end Go.Proofs.Ytpjdlcdkldomlaa
