/- Spans: bootprintkit.SameSpan of two spans that are unlike, part. -/
import Derived.Test.YtohnpogoldbplaaSpF
namespace Go.Proofs.Ytohnpogoldbplaa
open Go.RowKit

set_option maxRecDepth 100000 in
set_option maxHeartbeats 8000000 in
theorem kitSameNeA {A1 A2 : Option Addr} {c1 c2 n m B : Nat} (a b : Sp) (w : World) (hf : RbT w B A1 a.tags) (hg : RbT w B A2 b.tags) (hn : a.tags.length = n) (hm : b.tags.length = m) (hB : B ≤ w.heap.size) (hcase : (a.hi ≠ b.hi) ∨ (a.hi = b.hi ∧ a.lo ≠ b.lo) ∨ (a.hi = b.hi ∧ a.lo = b.lo ∧ a.id ≠ b.id) ∨ (a.hi = b.hi ∧ a.lo = b.lo ∧ a.id = b.id ∧ a.parent ≠ b.parent)) (hnl : n ≤ 9223372036854775807) (hml : m ≤ 9223372036854775807) :
    Calls Try.prog 11 #[spV a A1 n c1, spV b A2 m c2] w fun e w' => e = .returned (.bool false) ∧ Below w.heap.size w w' := by
  have HCASE := Lib.hid hcase
  have hb0 : Below w.heap.size w ((w.alloc (.cells (spC a A1 n c1) 27)).alloc (.cells (spC b A2 m c2) 27)) := ((Below.refl _ w).alloc (Nat.le_refl _) _).alloc (by simp) _
  have bk1 := (Bk.new w 27 (spC a A1 n c1)).alloc (.cells (spC b A2 m c2) 27)
  have bk2 := Bk.new (w.alloc (.cells (spC a A1 n c1) 27)) 27 (spC b A2 m c2)
  rw [World.size_alloc] at bk2
  obtain ⟨w1, hw1⟩ : ∃ w1, ((w.alloc (.cells (spC a A1 n c1) 27)).alloc (.cells (spC b A2 m c2) 27)) = w1 := ⟨_, rfl⟩
  rw [hw1] at hb0 bk1 bk2
  have HW := Lib.hid hw1
  obtain ⟨g, hgq⟩ : ∃ g, w.heap.size = g := ⟨_, rfl⟩
  rw [hgq] at bk1 bk2
  have HG := Lib.hid hgq
  have kp0 : w1.cell? ⟨g, 0, none⟩ = some (.int .u64 a.hi) := bk1.cell 0
  have kp1 : w1.cell? ⟨g, 1, none⟩ = some (.int .u64 a.lo) := bk1.cell 1
  have kp2 : w1.cell? ⟨g, 2, none⟩ = some (.int .u64 a.id) := bk1.cell 2
  have kp3 : w1.cell? ⟨g, 3, none⟩ = some (.int .u64 a.parent) := bk1.cell 3
  have kp4 : w1.cell? ⟨g, 4, none⟩ = some (.string a.service) := bk1.cell 4
  have kp5 : w1.cell? ⟨g, 5, none⟩ = some (.string a.name) := bk1.cell 5
  have kp6 : w1.cell? ⟨g, 6, none⟩ = some (.int .i64 a.kind) := bk1.cell 6
  have kp7 : w1.cell? ⟨g, 7, none⟩ = some (.int .i64 a.start) := bk1.cell 7
  have kp8 : w1.cell? ⟨g, 8, none⟩ = some (.int .i64 a.length) := bk1.cell 8
  have kp9 : w1.cell? ⟨g, 9, none⟩ = some (.bool a.fails) := bk1.cell 9
  have kp10 : w1.cell? ⟨g, 10, none⟩ = some (.slice A1 n c1) := bk1.cell 10
  have kq0 : w1.cell? ⟨g + 1, 0, none⟩ = some (.int .u64 b.hi) := bk2.cell 0
  have kq1 : w1.cell? ⟨g + 1, 1, none⟩ = some (.int .u64 b.lo) := bk2.cell 1
  have kq2 : w1.cell? ⟨g + 1, 2, none⟩ = some (.int .u64 b.id) := bk2.cell 2
  have kq3 : w1.cell? ⟨g + 1, 3, none⟩ = some (.int .u64 b.parent) := bk2.cell 3
  have kq4 : w1.cell? ⟨g + 1, 4, none⟩ = some (.string b.service) := bk2.cell 4
  have kq5 : w1.cell? ⟨g + 1, 5, none⟩ = some (.string b.name) := bk2.cell 5
  have kq6 : w1.cell? ⟨g + 1, 6, none⟩ = some (.int .i64 b.kind) := bk2.cell 6
  have kq7 : w1.cell? ⟨g + 1, 7, none⟩ = some (.int .i64 b.start) := bk2.cell 7
  have kq8 : w1.cell? ⟨g + 1, 8, none⟩ = some (.int .i64 b.length) := bk2.cell 8
  have kq9 : w1.cell? ⟨g + 1, 9, none⟩ = some (.bool b.fails) := bk2.cell 9
  have kq10 : w1.cell? ⟨g + 1, 10, none⟩ = some (.slice A2 m c2) := bk2.cell 10
  clear hw1 bk1 bk2 hgq hf hg hn hm hcase
  go_enter Try.func11, Try.ntmps11
  go_upto_region 1 with fail
  rw [HW.out, HG.out]
  have hcase := HCASE.out
  clear HCASE
  rcases hcase with x1 | ⟨x1, x2⟩ | ⟨x1, x2, x3⟩ | ⟨x1, x2, x3, x4⟩
  · have d : ((a.hi : Int) != (b.hi : Int)) = true := by rw [bne_iff_ne]; omega
    have d' : ((a.hi : Int) == (b.hi : Int)) = false := by rw [beq_eq_false_iff_ne]; omega
    go_wp2
    go_ret
    exact ⟨rfl, hb0⟩
  · have d : ((a.lo : Int) != (b.lo : Int)) = true := by rw [bne_iff_ne]; omega
    have d' : ((a.lo : Int) == (b.lo : Int)) = false := by rw [beq_eq_false_iff_ne]; omega
    go_wp2
    go_ret
    exact ⟨rfl, hb0⟩
  · have d : ((a.id : Int) != (b.id : Int)) = true := by rw [bne_iff_ne]; omega
    have d' : ((a.id : Int) == (b.id : Int)) = false := by rw [beq_eq_false_iff_ne]; omega
    go_wp2
    go_ret
    exact ⟨rfl, hb0⟩
  · have d : ((a.parent : Int) != (b.parent : Int)) = true := by rw [bne_iff_ne]; omega
    have d' : ((a.parent : Int) == (b.parent : Int)) = false := by rw [beq_eq_false_iff_ne]; omega
    go_wp2
    go_ret
    exact ⟨rfl, hb0⟩
end Go.Proofs.Ytohnpogoldbplaa
