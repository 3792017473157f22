/- Texts of the proof of AdjustTreeSaid, joined: SpF2b SpF2c SpF2 SoB StbA RaU RaP RaC. -/
import Derived.Test.YtchpekidnbdpdaaJAdjustTree5
import Derived.Test.YtchpekidnbdpdaaJAdjustTree6
import Derived.Test.YtchpekidnbdpdaaJAdjustTree1
import Derived.Sort.LotA
import Derived.Test.YtchpekidnbdpdaaJAdjustTree2
import Derived.Deep.QuietTactic
import Derived.BigQuiet
/- Spans: bootprintkit.SameSpan of two spans that are unlike, part. -/
namespace Go.Proofs.Ytchpekidnbdpdaa
open Go.RowKit

set_option maxRecDepth 100000 in
set_option maxHeartbeats 8000000 in
theorem kitSameNeB {A1 A2 : Option Addr} {c1 c2 n m B : Nat} (a b : Sp) (w : World) (hf : RbT w B A1 a.tags) (hg : RbT w B A2 b.tags) (hn : a.tags.length = n) (hm : b.tags.length = m) (hB : B ≤ w.heap.size) (hcase : (a.hi = b.hi ∧ a.lo = b.lo ∧ a.id = b.id ∧ a.parent = b.parent ∧ a.service ≠ b.service) ∨ (a.hi = b.hi ∧ a.lo = b.lo ∧ a.id = b.id ∧ a.parent = b.parent ∧ a.service = b.service ∧ a.name ≠ b.name) ∨ (a.hi = b.hi ∧ a.lo = b.lo ∧ a.id = b.id ∧ a.parent = b.parent ∧ a.service = b.service ∧ a.name = b.name ∧ a.kind ≠ b.kind) ∨ (a.hi = b.hi ∧ a.lo = b.lo ∧ a.id = b.id ∧ a.parent = b.parent ∧ a.service = b.service ∧ a.name = b.name ∧ a.kind = b.kind ∧ a.start ≠ b.start)) (hnl : n ≤ 9223372036854775807) (hml : m ≤ 9223372036854775807) :
    Calls Try.prog 32 #[spV a A1 n c1, spV b A2 m c2] w fun e w' => e = .returned (.bool false) ∧ Below w.heap.size w w' := by
  have HCASE := Lib.hid hcase
  have hb0 : Below w.heap.size w ((w.alloc (.cells (spC a A1 n c1) 32)).alloc (.cells (spC b A2 m c2) 32)) := ((Below.refl _ w).alloc (Nat.le_refl _) _).alloc (by simp) _
  have bk1 := (Bk.new w 32 (spC a A1 n c1)).alloc (.cells (spC b A2 m c2) 32)
  have bk2 := Bk.new (w.alloc (.cells (spC a A1 n c1) 32)) 32 (spC b A2 m c2)
  rw [World.size_alloc] at bk2
  obtain ⟨w1, hw1⟩ : ∃ w1, ((w.alloc (.cells (spC a A1 n c1) 32)).alloc (.cells (spC b A2 m c2) 32)) = w1 := ⟨_, rfl⟩
  rw [hw1] at hb0 bk1 bk2
  have HW := Lib.hid hw1
  obtain ⟨g, hgq⟩ : ∃ g, w.heap.size = g := ⟨_, rfl⟩
  rw [hgq] at bk1 bk2
  have HG := Lib.hid hgq
  have kp0 : w1.cell? ⟨g, 0, none⟩ = some (.int .u64 a.hi) := bk1.cell 0
  have kp1 : w1.cell? ⟨g, 1, none⟩ = some (.int .u64 a.lo) := bk1.cell 1
  have kp2 : w1.cell? ⟨g, 2, none⟩ = some (.int .u64 a.id) := bk1.cell 2
  have kp3 : w1.cell? ⟨g, 3, none⟩ = some (.int .u64 a.parent) := bk1.cell 3
  have kp4 : w1.cell? ⟨g, 4, none⟩ = some (.string a.service) := bk1.cell 4
  have kp5 : w1.cell? ⟨g, 5, none⟩ = some (.string a.name) := bk1.cell 5
  have kp6 : w1.cell? ⟨g, 6, none⟩ = some (.int .i64 a.kind) := bk1.cell 6
  have kp7 : w1.cell? ⟨g, 7, none⟩ = some (.int .i64 a.start) := bk1.cell 7
  have kp8 : w1.cell? ⟨g, 8, none⟩ = some (.int .i64 a.length) := bk1.cell 8
  have kp9 : w1.cell? ⟨g, 9, none⟩ = some (.bool a.fails) := bk1.cell 9
  have kp10 : w1.cell? ⟨g, 10, none⟩ = some (.slice A1 n c1) := bk1.cell 10
  have kq0 : w1.cell? ⟨g + 1, 0, none⟩ = some (.int .u64 b.hi) := bk2.cell 0
  have kq1 : w1.cell? ⟨g + 1, 1, none⟩ = some (.int .u64 b.lo) := bk2.cell 1
  have kq2 : w1.cell? ⟨g + 1, 2, none⟩ = some (.int .u64 b.id) := bk2.cell 2
  have kq3 : w1.cell? ⟨g + 1, 3, none⟩ = some (.int .u64 b.parent) := bk2.cell 3
  have kq4 : w1.cell? ⟨g + 1, 4, none⟩ = some (.string b.service) := bk2.cell 4
  have kq5 : w1.cell? ⟨g + 1, 5, none⟩ = some (.string b.name) := bk2.cell 5
  have kq6 : w1.cell? ⟨g + 1, 6, none⟩ = some (.int .i64 b.kind) := bk2.cell 6
  have kq7 : w1.cell? ⟨g + 1, 7, none⟩ = some (.int .i64 b.start) := bk2.cell 7
  have kq8 : w1.cell? ⟨g + 1, 8, none⟩ = some (.int .i64 b.length) := bk2.cell 8
  have kq9 : w1.cell? ⟨g + 1, 9, none⟩ = some (.bool b.fails) := bk2.cell 9
  have kq10 : w1.cell? ⟨g + 1, 10, none⟩ = some (.slice A2 m c2) := bk2.cell 10
  clear hw1 bk1 bk2 hgq hf hg hn hm hcase
  go_enter Try.func32, Try.ntmps32
  go_upto_region 1 with fail
  rw [HW.out, HG.out]
  have hcase := HCASE.out
  clear HCASE
  rcases hcase with ⟨x1, x2, x3, x4, x5⟩ | ⟨x1, x2, x3, x4, x5, x6⟩ | ⟨x1, x2, x3, x4, x5, x6, x7⟩ | ⟨x1, x2, x3, x4, x5, x6, x7, x8⟩
  · have d : (a.service.toList == b.service.toList) = false := by rw [strEq_of]; simpa using x5
    go_wp2
    go_ret
    exact ⟨rfl, hb0⟩
  · have d : (a.name.toList == b.name.toList) = false := by rw [strEq_of]; simpa using x6
    go_wp2
    go_ret
    exact ⟨rfl, hb0⟩
  · have d : ((a.kind : Int) != (b.kind : Int)) = true := by rw [bne_iff_ne]; omega
    have d' : ((a.kind : Int) == (b.kind : Int)) = false := by rw [beq_eq_false_iff_ne]; omega
    go_wp2
    go_ret
    exact ⟨rfl, hb0⟩
  · have d : ((a.start : Int) != (b.start : Int)) = true := by rw [bne_iff_ne]; omega
    have d' : ((a.start : Int) == (b.start : Int)) = false := by rw [beq_eq_false_iff_ne]; omega
    go_wp2
    go_ret
    exact ⟨rfl, hb0⟩
end Go.Proofs.Ytchpekidnbdpdaa


/- Spans: bootprintkit.SameSpan of two spans that are unlike, part. -/
namespace Go.Proofs.Ytchpekidnbdpdaa
open Go.RowKit

set_option maxRecDepth 100000 in
set_option maxHeartbeats 8000000 in
theorem kitSameNeC {A1 A2 : Option Addr} {c1 c2 n m B : Nat} (a b : Sp) (w : World) (hf : RbT w B A1 a.tags) (hg : RbT w B A2 b.tags) (hn : a.tags.length = n) (hm : b.tags.length = m) (hB : B ≤ w.heap.size) (hcase : (a.hi = b.hi ∧ a.lo = b.lo ∧ a.id = b.id ∧ a.parent = b.parent ∧ a.service = b.service ∧ a.name = b.name ∧ a.kind = b.kind ∧ a.start = b.start ∧ a.length ≠ b.length) ∨ (a.hi = b.hi ∧ a.lo = b.lo ∧ a.id = b.id ∧ a.parent = b.parent ∧ a.service = b.service ∧ a.name = b.name ∧ a.kind = b.kind ∧ a.start = b.start ∧ a.length = b.length ∧ a.fails ≠ b.fails) ∨ (a.hi = b.hi ∧ a.lo = b.lo ∧ a.id = b.id ∧ a.parent = b.parent ∧ a.service = b.service ∧ a.name = b.name ∧ a.kind = b.kind ∧ a.start = b.start ∧ a.length = b.length ∧ a.fails = b.fails ∧ n ≠ m)) (hnl : n ≤ 9223372036854775807) (hml : m ≤ 9223372036854775807) :
    Calls Try.prog 32 #[spV a A1 n c1, spV b A2 m c2] w fun e w' => e = .returned (.bool false) ∧ Below w.heap.size w w' := by
  have HCASE := Lib.hid hcase
  have hb0 : Below w.heap.size w ((w.alloc (.cells (spC a A1 n c1) 32)).alloc (.cells (spC b A2 m c2) 32)) := ((Below.refl _ w).alloc (Nat.le_refl _) _).alloc (by simp) _
  have bk1 := (Bk.new w 32 (spC a A1 n c1)).alloc (.cells (spC b A2 m c2) 32)
  have bk2 := Bk.new (w.alloc (.cells (spC a A1 n c1) 32)) 32 (spC b A2 m c2)
  rw [World.size_alloc] at bk2
  obtain ⟨w1, hw1⟩ : ∃ w1, ((w.alloc (.cells (spC a A1 n c1) 32)).alloc (.cells (spC b A2 m c2) 32)) = w1 := ⟨_, rfl⟩
  rw [hw1] at hb0 bk1 bk2
  have HW := Lib.hid hw1
  obtain ⟨g, hgq⟩ : ∃ g, w.heap.size = g := ⟨_, rfl⟩
  rw [hgq] at bk1 bk2
  have HG := Lib.hid hgq
  have kp0 : w1.cell? ⟨g, 0, none⟩ = some (.int .u64 a.hi) := bk1.cell 0
  have kp1 : w1.cell? ⟨g, 1, none⟩ = some (.int .u64 a.lo) := bk1.cell 1
  have kp2 : w1.cell? ⟨g, 2, none⟩ = some (.int .u64 a.id) := bk1.cell 2
  have kp3 : w1.cell? ⟨g, 3, none⟩ = some (.int .u64 a.parent) := bk1.cell 3
  have kp4 : w1.cell? ⟨g, 4, none⟩ = some (.string a.service) := bk1.cell 4
  have kp5 : w1.cell? ⟨g, 5, none⟩ = some (.string a.name) := bk1.cell 5
  have kp6 : w1.cell? ⟨g, 6, none⟩ = some (.int .i64 a.kind) := bk1.cell 6
  have kp7 : w1.cell? ⟨g, 7, none⟩ = some (.int .i64 a.start) := bk1.cell 7
  have kp8 : w1.cell? ⟨g, 8, none⟩ = some (.int .i64 a.length) := bk1.cell 8
  have kp9 : w1.cell? ⟨g, 9, none⟩ = some (.bool a.fails) := bk1.cell 9
  have kp10 : w1.cell? ⟨g, 10, none⟩ = some (.slice A1 n c1) := bk1.cell 10
  have kq0 : w1.cell? ⟨g + 1, 0, none⟩ = some (.int .u64 b.hi) := bk2.cell 0
  have kq1 : w1.cell? ⟨g + 1, 1, none⟩ = some (.int .u64 b.lo) := bk2.cell 1
  have kq2 : w1.cell? ⟨g + 1, 2, none⟩ = some (.int .u64 b.id) := bk2.cell 2
  have kq3 : w1.cell? ⟨g + 1, 3, none⟩ = some (.int .u64 b.parent) := bk2.cell 3
  have kq4 : w1.cell? ⟨g + 1, 4, none⟩ = some (.string b.service) := bk2.cell 4
  have kq5 : w1.cell? ⟨g + 1, 5, none⟩ = some (.string b.name) := bk2.cell 5
  have kq6 : w1.cell? ⟨g + 1, 6, none⟩ = some (.int .i64 b.kind) := bk2.cell 6
  have kq7 : w1.cell? ⟨g + 1, 7, none⟩ = some (.int .i64 b.start) := bk2.cell 7
  have kq8 : w1.cell? ⟨g + 1, 8, none⟩ = some (.int .i64 b.length) := bk2.cell 8
  have kq9 : w1.cell? ⟨g + 1, 9, none⟩ = some (.bool b.fails) := bk2.cell 9
  have kq10 : w1.cell? ⟨g + 1, 10, none⟩ = some (.slice A2 m c2) := bk2.cell 10
  clear hw1 bk1 bk2 hgq hf hg hn hm hcase
  go_enter Try.func32, Try.ntmps32
  go_upto_region 1 with fail
  rw [HW.out, HG.out]
  have hcase := HCASE.out
  clear HCASE
  rcases hcase with ⟨x1, x2, x3, x4, x5, x6, x7, x8, x9⟩ | ⟨x1, x2, x3, x4, x5, x6, x7, x8, x9, x10⟩ | ⟨x1, x2, x3, x4, x5, x6, x7, x8, x9, x10, x11⟩
  · have d : ((a.length : Int) != (b.length : Int)) = true := by rw [bne_iff_ne]; omega
    have d' : ((a.length : Int) == (b.length : Int)) = false := by rw [beq_eq_false_iff_ne]; omega
    go_wp2
    go_ret
    exact ⟨rfl, hb0⟩
  · have d : (a.fails != b.fails) = true := by simpa using x10
    have d' : (a.fails == b.fails) = false := by simpa using x10
    go_wp2
    go_ret
    exact ⟨rfl, hb0⟩
  · have d : ((n : Int) != (m : Int)) = true := by rw [bne_iff_ne]; omega
    go_wp2
    go_ret
    exact ⟨rfl, hb0⟩
end Go.Proofs.Ytchpekidnbdpdaa


/- Spans: bootprintkit.SameSpan of any two spans. -/
namespace Go.Proofs.Ytchpekidnbdpdaa
open Go.RowKit

theorem spC_head {a b : Sp} (h1 : a.hi = b.hi) (h2 : a.lo = b.lo) (h3 : a.id = b.id) (h4 : a.parent = b.parent) (h5 : a.service = b.service) (h6 : a.name = b.name) (h7 : a.kind = b.kind) (h8 : a.start = b.start) (h9 : a.length = b.length) (h10 : a.fails = b.fails) (A : Option Addr) (n c : Nat) : spV b A n c = spV a A n c := by
  rw [spV, spV, spC, spC, h1, h2, h3, h4, h5, h6, h7, h8, h9, h10]
set_option maxRecDepth 100000 in
set_option maxHeartbeats 8000000 in
theorem kitSame {A1 A2 : Option Addr} {c1 c2 n m B : Nat} (a b : Sp) (w : World) (hf : RbT w B A1 a.tags) (hg : RbT w B A2 b.tags) (hn : a.tags.length = n) (hm : b.tags.length = m) (hB : B ≤ w.heap.size) (hnl : n ≤ 9223372036854775807) (hml : m ≤ 9223372036854775807) :
    Calls Try.prog 32 #[spV a A1 n c1, spV b A2 m c2] w fun e w' => e = .returned (.bool (decide (a = b))) ∧ Below w.heap.size w w' := by
  by_cases hall : a.hi = b.hi ∧ a.lo = b.lo ∧ a.id = b.id ∧ a.parent = b.parent ∧ a.service = b.service ∧ a.name = b.name ∧ a.kind = b.kind ∧ a.start = b.start ∧ a.length = b.length ∧ a.fails = b.fails ∧ n = m
  · obtain ⟨h1, h2, h3, h4, h5, h6, h7, h8, h9, h10, rfl⟩ := hall
    have h := kitSameTags (c1 := c1) (c2 := c2) a a.tags b.tags w hf hg hn hm hB hnl
    rw [spC_head h1 h2 h3 h4 h5 h6 h7 h8 h9 h10]
    have e : decide (a = b) = decide (a.tags = b.tags) := by
      rw [decide_eq_decide]
      refine ⟨fun h => by rw [h], fun h => ?_⟩
      cases a; cases b
      simp only at h1 h2 h3 h4 h5 h6 h7 h8 h9 h10 h
      simp only [h1, h2, h3, h4, h5, h6, h7, h8, h9, h10, h]
    rw [e]
    exact h
  have hqf : decide (a = b) = false := by
    rw [decide_eq_false_iff_not]
    rintro rfl
    exact hall ⟨rfl, rfl, rfl, rfl, rfl, rfl, rfl, rfl, rfl, rfl, by omega⟩
  rw [hqf]
  have hcase : a.hi ≠ b.hi ∨ (a.hi = b.hi ∧ (a.lo ≠ b.lo ∨ (a.lo = b.lo ∧ (a.id ≠ b.id ∨ (a.id = b.id ∧ (a.parent ≠ b.parent ∨ (a.parent = b.parent ∧ (a.service ≠ b.service ∨ (a.service = b.service ∧ (a.name ≠ b.name ∨ (a.name = b.name ∧ (a.kind ≠ b.kind ∨ (a.kind = b.kind ∧ (a.start ≠ b.start ∨ (a.start = b.start ∧ (a.length ≠ b.length ∨ (a.length = b.length ∧ (a.fails ≠ b.fails ∨ (a.fails = b.fails ∧ n ≠ m))))))))))))))))))) := by
    by_cases x1 : a.hi = b.hi
    case neg => exact .inl x1
    refine .inr ⟨x1, ?_⟩
    by_cases x2 : a.lo = b.lo
    case neg => exact .inl x2
    refine .inr ⟨x2, ?_⟩
    by_cases x3 : a.id = b.id
    case neg => exact .inl x3
    refine .inr ⟨x3, ?_⟩
    by_cases x4 : a.parent = b.parent
    case neg => exact .inl x4
    refine .inr ⟨x4, ?_⟩
    by_cases x5 : a.service = b.service
    case neg => exact .inl x5
    refine .inr ⟨x5, ?_⟩
    by_cases x6 : a.name = b.name
    case neg => exact .inl x6
    refine .inr ⟨x6, ?_⟩
    by_cases x7 : a.kind = b.kind
    case neg => exact .inl x7
    refine .inr ⟨x7, ?_⟩
    by_cases x8 : a.start = b.start
    case neg => exact .inl x8
    refine .inr ⟨x8, ?_⟩
    by_cases x9 : a.length = b.length
    case neg => exact .inl x9
    refine .inr ⟨x9, ?_⟩
    by_cases x10 : a.fails = b.fails
    case neg => exact .inl x10
    exact .inr ⟨x10, fun x11 => hall ⟨x1, x2, x3, x4, x5, x6, x7, x8, x9, x10, x11⟩⟩
  rcases hcase with x1 | ⟨x1, x2 | ⟨x2, x3 | ⟨x3, x4 | ⟨x4, x5 | ⟨x5, x6 | ⟨x6, x7 | ⟨x7, x8 | ⟨x8, x9 | ⟨x9, x10 | ⟨x10, x11⟩⟩⟩⟩⟩⟩⟩⟩⟩⟩
  · exact kitSameNeA (c1 := c1) (c2 := c2) a b w hf hg hn hm hB (.inl x1) hnl hml
  · exact kitSameNeA (c1 := c1) (c2 := c2) a b w hf hg hn hm hB (.inr (.inl ⟨x1, x2⟩)) hnl hml
  · exact kitSameNeA (c1 := c1) (c2 := c2) a b w hf hg hn hm hB (.inr (.inr (.inl ⟨x1, x2, x3⟩))) hnl hml
  · exact kitSameNeA (c1 := c1) (c2 := c2) a b w hf hg hn hm hB (.inr (.inr (.inr (⟨x1, x2, x3, x4⟩)))) hnl hml
  · exact kitSameNeB (c1 := c1) (c2 := c2) a b w hf hg hn hm hB (.inl ⟨x1, x2, x3, x4, x5⟩) hnl hml
  · exact kitSameNeB (c1 := c1) (c2 := c2) a b w hf hg hn hm hB (.inr (.inl ⟨x1, x2, x3, x4, x5, x6⟩)) hnl hml
  · exact kitSameNeB (c1 := c1) (c2 := c2) a b w hf hg hn hm hB (.inr (.inr (.inl ⟨x1, x2, x3, x4, x5, x6, x7⟩))) hnl hml
  · exact kitSameNeB (c1 := c1) (c2 := c2) a b w hf hg hn hm hB (.inr (.inr (.inr (⟨x1, x2, x3, x4, x5, x6, x7, x8⟩)))) hnl hml
  · exact kitSameNeC (c1 := c1) (c2 := c2) a b w hf hg hn hm hB (.inl ⟨x1, x2, x3, x4, x5, x6, x7, x8, x9⟩) hnl hml
  · exact kitSameNeC (c1 := c1) (c2 := c2) a b w hf hg hn hm hB (.inr (.inl ⟨x1, x2, x3, x4, x5, x6, x7, x8, x9, x10⟩)) hnl hml
  · exact kitSameNeC (c1 := c1) (c2 := c2) a b w hf hg hn hm hB (.inr (.inr (⟨x1, x2, x3, x4, x5, x6, x7, x8, x9, x10, x11⟩))) hnl hml
end Go.Proofs.Ytchpekidnbdpdaa


/- Lists of spans: bootprintkit.SmallSpans, SameSpans. -/
namespace Go.Proofs.Ytchpekidnbdpdaa
open Go.RowKit
attribute [local go_sem ↓] loadK_shut

/-- If it says yes, they are few and each is small. -/
def SmallsPost (w : World) (l : List El) (N most : Int) (e : Ending) (w' : World) : Prop :=
  ∃ q, e = .returned (.bool q) ∧ Below w.heap.size w w' ∧ (q = true → (l.length : Int) ≤ N ∧ ∀ x ∈ l, smallB x.s most = true)
set_option maxRecDepth 100000 in
set_option maxHeartbeats 2000000 in
theorem kitSmalls {A : Option Addr} {c n B : Nat} {l : List El} (N most : Int) (w : World) (hf : RbS w B A l) (hn : l.length = n) (hB : B ≤ w.heap.size) (hnl : n ≤ 9223372036854775807) (hN : 0 ≤ N) :
    Calls Try.prog 11 #[.slice A n c, .int .i64 N, .int .i64 most] w (SmallsPost w l N most) := by
  have HN := Lib.hid hn
  clear hn
  go_enter Try.func11, Try.ntmps11
  go_wp2
  go_loopw [7] (fun iv_ wr => ∃ j : Nat, j ≤ n ∧ iv_ = .int .i64 j ∧ (∀ x ∈ l.take j, smallB x.s most = true) ∧ Below w.heap.size w wr) (fun i _ => n - (intOf i).toNat)
  case atStart => exact ⟨0, by omega, rfl, fun x hx => by simp at hx, Below.refl _ _⟩
  case round =>
    obtain ⟨j, hj, rfl, hall, hb⟩ := hrel
    have HA := Lib.hid hall
    clear hall
    by_cases hlt : j < n
    · have hlt' : (j : Int) < (n : Int) := by omega
      by_cases hjN : (j : Int) ≤ N
      · obtain ⟨x, hx⟩ : ∃ x, l[j]? = some x := ⟨_, List.getElem?_eq_getElem (by rw [HN.out]; exact hlt)⟩
        obtain ⟨b, o, rfl, hbb, hc, hok⟩ := (hf.below (hb.mono hB)).get hx
        have hld := loadK_el hc
        have hsm := kitSmall (c := x.c) x.s most wr hok.rd hok.len (Nat.le_trans hB hb.size) hok.max
        obtain ⟨q, hq⟩ : ∃ q, smallB x.s most = q := ⟨_, rfl⟩
        rw [hq] at hsm
        have HQ := Lib.hid hq
        have HS := Lib.hid hsm
        have HX := Lib.hid hx
        clear hc hq hsm hx hok
        cases q with
        | false =>
          go_wp2_with (go_at_call 29; refine HS.out.mono ?_; rintro e w' ⟨rfl, hb'⟩)
          go_ret
          exact ⟨false, rfl, hb.trans (hb'.mono hb.size), fun h => by cases h⟩
        | true =>
          go_wp2_with (go_at_call 29; refine HS.out.mono ?_; rintro e w' ⟨rfl, hb'⟩)
          have hst : ∀ y ∈ l.take (j + 1), smallB y.s most = true := fun y hy => by
            rw [take_snoc HX.out, List.mem_append, List.mem_singleton] at hy
            rcases hy with hy | rfl
            · exact HA.out y hy
            · exact HQ.out
          have HST := Lib.hid hst
          clear hst
          go_roundw
          case rel => exact ⟨j + 1, by omega, by go_num, HST.out, hb.trans (hb'.mono hb.size)⟩
          case measure => simp [intOf]; omega
      · have hjN' : decide ((j : Int) ≤ N) = false := by simp; omega
        have hnN : decide ((n : Int) ≤ N) = false := by simp; omega
        go_wp2
        go_ret
        exact ⟨false, rfl, hb, fun h => by cases h⟩
    · have hlt' : decide ((j : Int) < (n : Int)) = false := by simp; omega
      obtain rfl : j = n := by omega
      by_cases hnN : (j : Int) ≤ N
      · go_wp2
        go_ret
        exact ⟨true, rfl, hb, fun _ => ⟨by rw [HN.out]; exact hnN, fun x hx => HA.out x (by rw [List.take_of_length_le (by rw [HN.out]; omega)]; exact hx)⟩⟩
      · have hnN' : decide ((j : Int) ≤ N) = false := by simp; omega
        go_wp2
        go_ret
        exact ⟨false, rfl, hb, fun h => by cases h⟩

theorem list_eq_of {α : Type} {a b : List α} (hl : a.length = b.length) (h : ∀ (i : Nat) (x y : α), a[i]? = some x → b[i]? = some y → x = y) : a = b := by
  apply List.ext_getElem hl
  intro i h1 h2
  exact h i _ _ (List.getElem?_eq_getElem h1) (List.getElem?_eq_getElem h2)

set_option maxRecDepth 100000 in
set_option maxHeartbeats 4000000 in
theorem kitSames {A1 A2 : Option Addr} {c1 c2 n m B : Nat} {la lb : List El} (w : World) (hf : RbS w B A1 la) (hg : RbS w B A2 lb) (hn : la.length = n) (hm : lb.length = m) (hB : B ≤ w.heap.size) (hnl : n ≤ 9223372036854775807) (hml : m ≤ 9223372036854775807) :
    Calls Try.prog 13 #[.slice A1 n c1, .slice A2 m c2] w fun e w' => e = .returned (.bool (decide (sps la = sps lb))) ∧ Below w.heap.size w w' := by
  obtain ⟨q, hq⟩ : ∃ q, decide (sps la = sps lb) = q := ⟨_, rfl⟩
  rw [hq]
  have HQ := Lib.hid hq
  have HN := Lib.hid hn
  have HM := Lib.hid hm
  clear hq hn hm
  by_cases hnm : n = m
  case neg =>
    have d1 : ((n : Int) != (m : Int)) = true := by rw [bne_iff_ne]; omega
    have hq0 : q = false := by
      rw [← HQ.out, decide_eq_false_iff_not]
      intro e
      have := congrArg List.length e
      rw [sps_length, sps_length, HN.out, HM.out] at this
      exact hnm this
    have HQ0 := Lib.hid hq0
    clear hq0
    go_enter Try.func13, Try.ntmps13
    go_wp2
    go_ret
    exact ⟨by rw [HQ0.out]; rfl, Below.refl _ _⟩
  subst hnm
  go_enter Try.func13, Try.ntmps13
  go_wp2
  go_loopw [5] (fun iv_ wr => ∃ j : Nat, j ≤ n ∧ iv_ = .int .i64 j ∧ (∀ i x y, i < j → la[i]? = some x → lb[i]? = some y → x.s = y.s) ∧ Below w.heap.size w wr) (fun i _ => n - (intOf i).toNat)
  case atStart => exact ⟨0, by omega, rfl, fun i x y h => by omega, Below.refl _ _⟩
  case round =>
    obtain ⟨j, hj, rfl, hall, hb⟩ := hrel
    have HA := Lib.hid hall
    clear hall
    by_cases hlt : j < n
    · have hlt' : (j : Int) < (n : Int) := by omega
      go_wp2_with fail
      obtain ⟨x, hx⟩ : ∃ x, la[j]? = some x := ⟨_, List.getElem?_eq_getElem (by rw [HN.out]; exact hlt)⟩
      obtain ⟨y, hy⟩ : ∃ y, lb[j]? = some y := ⟨_, List.getElem?_eq_getElem (by rw [HM.out]; exact hlt)⟩
      have hbd : Below w.heap.size w wr.drew := below_drewN hb 1
      obtain ⟨b1, o1, rfl, hbb1, hc1, hok1⟩ := (hf.below (hbd.mono hB)).get hx
      obtain ⟨b2, o2, rfl, hbb2, hc2, hok2⟩ := (hg.below (hbd.mono hB)).get hy
      have hld1 := loadK_el hc1
      have hld2 := loadK_el hc2
      have hsm := kitSame (c1 := x.c) (c2 := y.c) x.s y.s wr.drew hok1.rd hok2.rd hok1.len hok2.len (Nat.le_trans hB hbd.size) hok1.max hok2.max
      obtain ⟨p, hp⟩ : ∃ p, decide (x.s = y.s) = p := ⟨_, rfl⟩
      rw [hp] at hsm
      have HP := Lib.hid hp
      have HS := Lib.hid hsm
      have HX := Lib.hid hx
      have HY := Lib.hid hy
      clear hc1 hc2 hp hsm hx hy hok1 hok2
      have hpq : p = false → q = false := fun h => by
        rw [← HQ.out, decide_eq_false_iff_not]
        intro e
        have h1 := sps_get HX.out
        rw [e, sps_get HY.out] at h1
        have h2 := HP.out
        rw [h, decide_eq_false_iff_not] at h2
        exact h2 (Option.some.inj h1).symm
      have HPQ := Lib.hid hpq
      clear hpq
      go_region_held3 (fun w' => (loadK 32 ⟨b1, o1 + j * 11, none⟩).run Try.prog w' = .ok (spV x.s x.A x.n x.c) w' ∧ (loadK 32 ⟨b2, o2 + j * 11, none⟩).run Try.prog w' = .ok (spV y.s y.A y.n y.c) w')
        (first | exact ⟨hld1, hld2⟩ | exact ⟨hle1, hle2⟩)
        (first
          | (go_at_call 32
             refine HS.out.mono ?_
             rintro e w5 ⟨rfl, hb5⟩
             have hb05 := hbd.trans (hb5.mono hbd.size)
             have hle1 : (loadK 32 ⟨b1, o1 + j * 11, none⟩).run Try.prog w5 = .ok (spV x.s x.A x.n x.c) w5 := by
               obtain ⟨b', o', e', -, hc', -⟩ := (hf.below (hb05.mono hB)).get HX.out
               cases e'
               exact loadK_el hc'
             have hle2 : (loadK 32 ⟨b2, o2 + j * 11, none⟩).run Try.prog w5 = .ok (spV y.s y.A y.n y.c) w5 := by
               obtain ⟨b', o', e', -, hc', -⟩ := (hg.below (hb05.mono hB)).get HY.out
               cases e'
               exact loadK_el hc')
          | fail)
      cases p with
      | false =>
        go_wp2
        go_ret
        exact ⟨by rw [HPQ.out (by first | rfl | trivial)]; rfl, hb05⟩
      | true =>
        have hst : ∀ i x y, i < j + 1 → la[i]? = some x → lb[i]? = some y → x.s = y.s := fun i u v hi hu hv => by
          by_cases hij : i < j
          · exact HA.out i u v hij hu hv
          · have : i = j := by omega
            subst this
            rw [HX.out] at hu
            rw [HY.out] at hv
            cases hu
            cases hv
            exact of_decide_eq_true HP.out
        have HST := Lib.hid hst
        clear hst
        go_wp2
        go_roundw
        case rel => exact ⟨j + 1, by omega, by go_num, HST.out, hb05⟩
        case measure => simp [intOf]; omega
    · have hlt' : decide ((j : Int) < (n : Int)) = false := by simp; omega
      obtain rfl : j = n := by omega
      have hqt : q = true := by
        rw [← HQ.out, decide_eq_true_iff]
        refine list_eq_of (by rw [sps_length, sps_length, HN.out, HM.out]) fun i u v hu hv => ?_
        simp only [sps, List.getElem?_map, Option.map_eq_some_iff] at hu hv
        obtain ⟨x, hx, rfl⟩ := hu
        obtain ⟨y, hy, rfl⟩ := hv
        have hi := (List.getElem?_eq_some_iff.1 hx).1
        rw [HN.out] at hi
        exact HA.out i x y hi hx hy
      have HQT := Lib.hid hqt
      clear hqt
      go_wp2
      go_ret
      exact ⟨by rw [HQT.out]; rfl, hb⟩
end Go.Proofs.Ytchpekidnbdpdaa


/- The stable sort, plain: what an exchange of ranges, a turn, a merge in place leave in a row. -/
namespace Go.Proofs.Ytchpekidnbdpdaa
open Go.Sort
variable {α : Type} [Inhabited α] {lt : α → α → Bool}

/-- The ranges of n from a on and from b on exchanged. -/
def SwR (a b n : Nat) (d d' : Array α) : Prop :=
  d'.size = d.size ∧ ∀ x, d'[x]! = if a ≤ x ∧ x < a + n then d[x - a + b]! else if b ≤ x ∧ x < b + n then d[x - b + a]! else d[x]!
/-- [a, m) and [m, b) turned about. -/
def Rot (a m b : Nat) (d d' : Array α) : Prop :=
  d'.size = d.size ∧ ∀ x, d'[x]! = if a ≤ x ∧ x < a + (b - m) then d[x - a + m]! else if a + (b - m) ≤ x ∧ x < b then d[x - (b - m)]! else d[x]!
/-- What stood at a moved up to k. -/
def Shu (a k : Nat) (d d' : Array α) : Prop :=
  d'.size = d.size ∧ ∀ x, d'[x]! = if a ≤ x ∧ x < k then d[x + 1]! else if x = k then d[a]! else d[x]!
/-- What stood at m moved down to k. -/
def Shd (k m : Nat) (d d' : Array α) : Prop :=
  d'.size = d.size ∧ ∀ x, d'[x]! = if k < x ∧ x ≤ m then d[x - 1]! else if x = k then d[m]! else d[x]!

theorem swp_at (d : Array α) {i j : Nat} (hi : i < d.size) (hj : j < d.size) (x : Nat) : (swp d i j)[x]! = if x = j then d[i]! else if x = i then d[j]! else d[x]! := by
  by_cases h1 : x = j
  · subst h1; rw [if_pos rfl]; exact swp_right d i x hj
  · rw [if_neg h1]
    by_cases h2 : x = i
    · subst h2; rw [if_pos rfl]; exact swp_left d x j hi h1
    · rw [if_neg h2]; exact swp_other d i j x h2 h1

theorem SwR.zero (a b : Nat) (d : Array α) : SwR a b 0 d d := ⟨rfl, fun x => by rw [if_neg (by omega), if_neg (by omega)]⟩
theorem SwR.step {a b i : Nat} {d dk : Array α} (h : SwR a b i d dk) (hab : a + i < b) (hb : b + i < d.size) : SwR a b (i + 1) d (swp dk (a + i) (b + i)) := by
  refine ⟨by rw [size_swp]; exact h.1, fun x => ?_⟩
  rw [swp_at dk (by rw [h.1]; omega) (by rw [h.1]; omega)]
  rw [h.2 x, h.2 (a + i), h.2 (b + i)]
  by_cases h1 : x = b + i
  · subst h1
    rw [if_pos rfl, if_neg (by omega : ¬ (a ≤ a + i ∧ a + i < a + i)), if_neg (by omega : ¬ (b ≤ a + i ∧ a + i < b + i)), if_neg (by omega : ¬ (a ≤ b + i ∧ b + i < a + (i + 1))), if_pos (by omega : b ≤ b + i ∧ b + i < b + (i + 1)), show b + i - b + a = a + i by omega]
  · rw [if_neg h1]
    by_cases h2 : x = a + i
    · subst h2
      rw [if_pos rfl, if_neg (by omega : ¬ (a ≤ b + i ∧ b + i < a + i)), if_neg (by omega : ¬ (b ≤ b + i ∧ b + i < b + i)), if_pos (by omega : a ≤ a + i ∧ a + i < a + (i + 1)), show a + i - a + b = b + i by omega]
    · rw [if_neg h2]
      by_cases h3 : a ≤ x ∧ x < a + i
      · rw [if_pos h3, if_pos (by omega : a ≤ x ∧ x < a + (i + 1))]
      · rw [if_neg h3, if_neg (by omega : ¬ (a ≤ x ∧ x < a + (i + 1)))]
        by_cases h4 : b ≤ x ∧ x < b + i
        · rw [if_pos h4, if_pos (by omega : b ≤ x ∧ x < b + (i + 1))]
        · rw [if_neg h4, if_neg (by omega : ¬ (b ≤ x ∧ x < b + (i + 1)))]

/-- Equal halves: one exchange turns them. -/
theorem Rot.same {m i : Nat} {d d' : Array α} (hi : i ≤ m) (h : SwR (m - i) m i d d') : Rot (m - i) m (m + i) d d' := by
  refine ⟨h.1, fun x => ?_⟩
  rw [h.2 x]
  rw [show m + i - m = i by omega]
  by_cases h1 : m - i ≤ x ∧ x < m - i + i
  · rw [if_pos h1, if_pos h1]
  · rw [if_neg h1, if_neg h1]
    by_cases h2 : m ≤ x ∧ x < m + i
    · rw [if_pos h2, if_pos (by omega)]; congr 1; omega
    · rw [if_neg h2, if_neg (by omega)]
/-- The left is longer: its first part goes to its place. -/
theorem Rot.left {m i j : Nat} {d dk d' : Array α} (hi : i ≤ m) (hj : j < i) (h : SwR (m - i) m j d dk) (hr : Rot (m - (i - j)) m (m + j) dk d') : Rot (m - i) m (m + j) d d' := by
  refine ⟨hr.1.trans h.1, fun x => ?_⟩
  rw [hr.2 x, show m + j - m = j by omega]
  by_cases h1 : m - i ≤ x ∧ x < m - i + j
  · rw [if_pos h1, if_neg (by omega), if_neg (by omega), h.2, if_pos h1]
  · rw [if_neg h1]
    by_cases h2 : m - (i - j) ≤ x ∧ x < m - (i - j) + j
    · rw [if_pos h2, if_pos (by omega), h.2, if_neg (by omega), if_pos (by omega)]; congr 1; omega
    · rw [if_neg h2]
      by_cases h3 : m - (i - j) + j ≤ x ∧ x < m + j
      · rw [if_pos h3, if_pos (by omega), h.2, if_neg (by omega), if_neg (by omega)]
      · rw [if_neg h3, if_neg (by omega), h.2, if_neg (by omega), if_neg (by omega)]
/-- The right is longer: its last part comes to its place. -/
theorem Rot.right {m i j : Nat} {d dk d' : Array α} (hi : i ≤ m) (hj : i < j) (h : SwR (m - i) (m + j - i) i d dk) (hr : Rot (m - i) m (m + (j - i)) dk d') : Rot (m - i) m (m + j) d d' := by
  refine ⟨hr.1.trans h.1, fun x => ?_⟩
  rw [hr.2 x, show m + j - m = j by omega, show m + (j - i) - m = j - i by omega]
  by_cases h1 : m - i ≤ x ∧ x < m - i + (j - i)
  · rw [if_pos h1, if_pos (by omega), h.2, if_neg (by omega), if_neg (by omega)]
  · rw [if_neg h1]
    by_cases h2 : m - i + (j - i) ≤ x ∧ x < m + (j - i)
    · rw [if_pos h2, h.2, if_pos (by omega), if_pos (by omega)]; congr 1; omega
    · rw [if_neg h2]
      by_cases h3 : m + (j - i) ≤ x ∧ x < m + j
      · rw [h.2, if_neg (by omega), if_pos (by omega), if_neg (by omega), if_pos (by omega)]; congr 1; omega
      · rw [h.2, if_neg (by omega), if_neg (by omega), if_neg (by omega), if_neg (by omega)]
/-- Nothing on one side: nothing turns. -/
theorem Rot.none {a m b : Nat} (d : Array α) (hm : a ≤ m) (hb : m ≤ b) (h : a = m ∨ m = b) : Rot a m b d d := by
  refine ⟨rfl, fun x => ?_⟩
  by_cases h1 : a ≤ x ∧ x < a + (b - m)
  · rw [if_pos h1]; congr 1; omega
  · rw [if_neg h1]
    by_cases h2 : a + (b - m) ≤ x ∧ x < b
    · rw [if_pos h2]; congr 1; omega
    · rw [if_neg h2]

theorem Shu.zero (a : Nat) (d : Array α) : Shu a a d d := ⟨rfl, fun x => by rw [if_neg (by omega)]; split <;> simp_all⟩
theorem Shu.step {a k : Nat} {d dk : Array α} (h : Shu a k d dk) (ha : a ≤ k) (hk : k + 1 < d.size) : Shu a (k + 1) d (swp dk k (k + 1)) := by
  refine ⟨by rw [size_swp]; exact h.1, fun x => ?_⟩
  rw [swp_at dk (by rw [h.1]; omega) (by rw [h.1]; omega), h.2 x, h.2 k, h.2 (k + 1)]
  by_cases h1 : x = k + 1
  · subst h1; rw [if_pos rfl, if_neg (by omega), if_pos rfl, if_neg (by omega), if_pos rfl]
  · rw [if_neg h1]
    by_cases h2 : x = k
    · subst h2; rw [if_pos rfl, if_neg (by omega), if_neg (by omega), if_pos (by omega)]
    · rw [if_neg h2]
      by_cases h3 : a ≤ x ∧ x < k
      · rw [if_pos h3, if_pos (by omega)]
      · rw [if_neg h3, if_neg h2, if_neg (by omega), if_neg h1]
theorem Shd.zero (m : Nat) (d : Array α) : Shd m m d d := ⟨rfl, fun x => by rw [if_neg (by omega)]; split <;> simp_all⟩
theorem Shd.step {k m : Nat} {d dk : Array α} (h : Shd (k + 1) m d dk) (hk : k + 1 ≤ m) (hm : m < d.size) : Shd k m d (swp dk (k + 1) k) := by
  refine ⟨by rw [size_swp]; exact h.1, fun x => ?_⟩
  rw [swp_at dk (by rw [h.1]; omega) (by rw [h.1]; omega), h.2 x, h.2 k, h.2 (k + 1)]
  by_cases h1 : x = k
  · subst h1; rw [if_pos rfl, if_neg (by omega), if_pos rfl, if_neg (by omega), if_pos rfl]
  · rw [if_neg h1]
    by_cases h2 : x = k + 1
    · subst h2; rw [if_pos rfl, if_neg (by omega), if_neg (by omega), if_pos (by omega)]; rfl
    · rw [if_neg h2]
      by_cases h3 : k + 1 < x ∧ x ≤ m
      · rw [if_pos h3, if_pos (by omega)]
      · rw [if_neg h3, if_neg h2, if_neg (by omega), if_neg h1]

/-- One in front of sorted ones, moved behind all that are less. -/
theorem Shu.sorted (hS : SWO lt) {a b i : Nat} {d d' : Array α} (h : Shu a (i - 1) d d') (hm : a + 1 ≤ i) (hib : i ≤ b) (hs : SortedIn lt (a + 1) b d)
    (hl : ∀ x, a + 1 ≤ x → x < i → lt d[x]! d[a]! = true) (hg : ∀ x, i ≤ x → x < b → lt d[x]! d[a]! = false) : SortedIn lt a b d' := by
  intro x y hx hxy hy
  rw [h.2 x, h.2 y]
  by_cases y1 : a ≤ y ∧ y < i - 1
  · rw [if_pos y1, if_pos (by omega)]
    exact hs _ _ (by omega) (by omega) (by omega)
  · rw [if_neg y1]
    by_cases y2 : y = i - 1
    · rw [if_pos y2, if_pos (by omega)]
      exact hS.asymmA (hl _ (by omega) (by omega))
    · rw [if_neg y2]
      by_cases x1 : a ≤ x ∧ x < i - 1
      · rw [if_pos x1]; exact hs _ _ (by omega) (by omega) (by omega)
      · rw [if_neg x1]
        by_cases x2 : x = i - 1
        · rw [if_pos x2]; exact hg _ (by omega) hy
        · rw [if_neg x2]; exact hs _ _ (by omega) (by omega) hy
/-- One behind sorted ones, moved ahead of all that are more. -/
theorem Shd.sorted (hS : SWO lt) {a m i : Nat} {d d' : Array α} (h : Shd i m d d') (hm : a ≤ i) (him : i ≤ m) (hs : SortedIn lt a m d)
    (hl : ∀ x, a ≤ x → x < i → lt d[m]! d[x]! = false) (hg : ∀ x, i ≤ x → x < m → lt d[m]! d[x]! = true) : SortedIn lt a (m + 1) d' := by
  intro x y hx hxy hy
  rw [h.2 x, h.2 y]
  by_cases y1 : i < y ∧ y ≤ m
  · rw [if_pos y1]
    by_cases x1 : i < x ∧ x ≤ m
    · rw [if_pos x1]; exact hs _ _ (by omega) (by omega) (by omega)
    · rw [if_neg x1]
      by_cases x2 : x = i
      · rw [if_pos x2]; exact hS.asymmA (hg _ (by omega) (by omega))
      · rw [if_neg x2]; exact hs _ _ hx (by omega) (by omega)
  · rw [if_neg y1, if_neg (by omega : ¬ (i < x ∧ x ≤ m)), if_neg (by omega : ¬ x = i)]
    by_cases y2 : y = i
    · rw [if_pos y2]; exact hl _ hx (by omega)
    · rw [if_neg y2]; exact hs _ _ hx (by omega) (by omega)

/-- What a search by halves knows, where the answers are of one kind up to a place, and of the other from it on. -/
def Srch (q : Nat → Bool) (lo hi s r : Nat) : Prop := lo ≤ s ∧ s ≤ r ∧ r ≤ hi ∧ (∀ x, lo ≤ x → x < s → q x = false) ∧ (∀ x, r ≤ x → x < hi → q x = true)
/-- q, once true, stays true. -/
def Rises (q : Nat → Bool) (lo hi : Nat) : Prop := ∀ x y, lo ≤ x → x ≤ y → y < hi → q x = true → q y = true
theorem Srch.start {q : Nat → Bool} {lo hi : Nat} (h : lo ≤ hi) : Srch q lo hi lo hi := ⟨Nat.le_refl _, h, Nat.le_refl _, fun _ h1 h2 => by omega, fun _ h1 h2 => by omega⟩
theorem Srch.up {q : Nat → Bool} {lo hi s r c : Nat} (h : Srch q lo hi s r) (hq : Rises q lo hi) (h1 : s ≤ c) (h2 : c < r) (hc : q c = false) : Srch q lo hi (c + 1) r := by
  obtain ⟨a1, a2, a3, a4, a5⟩ := h
  refine ⟨by omega, by omega, a3, fun x hx hxc => ?_, a5⟩
  cases e : q x with
  | false => rfl
  | true => rw [hq x c hx (by omega) (by omega) e] at hc; cases hc
theorem Srch.down {q : Nat → Bool} {lo hi s r c : Nat} (h : Srch q lo hi s r) (hq : Rises q lo hi) (h1 : s ≤ c) (h2 : c < r) (hc : q c = true) : Srch q lo hi s c := by
  obtain ⟨a1, a2, a3, a4, a5⟩ := h
  exact ⟨by omega, by omega, by omega, a4, fun x hx hxc => hq c x (by omega) hx hxc hc⟩

/-- The three questions that a merge asks rise. -/
theorem rises_first (hS : SWO lt) {d : Array α} {m b : Nat} (v : α) (hs : SortedIn lt m b d) : Rises (fun x => !lt d[x]! v) m b := by
  intro x y hx hxy hy e
  simp only [Bool.not_eq_true'] at e ⊢
  rcases Nat.eq_or_lt_of_le hxy with rfl | h
  · exact e
  · exact hS.ntrans _ _ _ (hs x y hx h hy) e
theorem rises_last (hS : SWO lt) {d : Array α} {a m : Nat} (v : α) (hs : SortedIn lt a m d) : Rises (fun x => lt v d[x]!) a m := by
  intro x y hx hxy hy e
  simp only at e ⊢
  rcases Nat.eq_or_lt_of_le hxy with rfl | h
  · exact e
  · cases e2 : lt v d[y]! with
    | true => rfl
    | false => rw [hS.ntrans _ _ _ e2 (hs x y hx h hy)] at e; cases e
theorem rises_mid (hS : SWO lt) {d : Array α} {a m b p lo hi : Nat} (hs1 : SortedIn lt a m d) (hs2 : SortedIn lt m b d) (h1 : a ≤ lo) (h2 : hi ≤ m) (h3 : ∀ c, lo ≤ c → c < hi → m ≤ p - c ∧ p - c < b ∧ c ≤ p) :
    Rises (fun c => lt d[p - c]! d[c]!) lo hi := by
  intro x y hx hxy hy e
  simp only at e ⊢
  rcases Nat.eq_or_lt_of_le hxy with rfl | h
  · exact e
  · obtain ⟨x1, x2, x3⟩ := h3 x hx (by omega)
    obtain ⟨y1, y2, y3⟩ := h3 y (by omega) hy
    cases e2 : lt d[p - y]! d[y]! with
    | true => rfl
    | false =>
      have k1 := hs2 (p - y) (p - x) y1 (by omega) x2
      have k2 := hs1 x y (by omega) h (by omega)
      rw [hS.ntrans _ _ _ (hS.ntrans _ _ _ k1 e2) k2] at e; cases e

/-- What stands behind the turn of a merge's middle: four sorted parts, and nothing on the right is less than what is on the left. -/
structure Halves (lt : α → α → Bool) (a s mid e b : Nat) (d : Array α) : Prop where
  s1 : SortedIn lt a s d
  s2 : SortedIn lt s mid d
  s3 : SortedIn lt mid e d
  s4 : SortedIn lt e b d
  ord : ∀ x y, a ≤ x → x < mid → mid ≤ y → y < b → lt d[y]! d[x]! = false

/-- How a merge's bounds lie. -/
structure MgB (a m b mid lo hi : Nat) : Prop where
  am : a + 1 < m
  mb : m + 1 < b
  hmid : mid = (a + b) / 2
  hlo : lo = if mid < m then mid + m - b else a
  hhi : hi = if mid < m then mid else m

theorem MgB.ok {a m b mid lo hi : Nat} (h : MgB a m b mid lo hi) : a ≤ lo ∧ lo ≤ hi ∧ hi ≤ m ∧ hi ≤ mid ∧ a < mid ∧ mid < b ∧ b - mid ≤ mid - a + 1 ∧ mid - a ≤ b - mid ∧ (mid < m → lo + b = mid + m ∧ hi = mid) ∧ (m ≤ mid → lo = a ∧ hi = m) := by
  obtain ⟨h1, h2, h3, h4, h5⟩ := h
  by_cases hc : mid < m
  · rw [if_pos hc] at h4 h5; subst h5; omega
  · rw [if_neg hc] at h4 h5; subst h5; omega
theorem MgB.at {a m b mid lo hi : Nat} (h : MgB a m b mid lo hi) : ∀ c, lo ≤ c → c < hi → m ≤ mid + m - 1 - c ∧ mid + m - 1 - c < b ∧ c ≤ mid + m - 1 := by
  intro c h1 h2
  have := h.am; have := h.mb
  obtain ⟨k1, k2, k3, k4, k5, k6, k7, k8, k9, k10⟩ := h.ok
  by_cases hc : mid < m
  · have := k9 hc; omega
  · have := k10 (by omega); omega
theorem MgB.ends {a m b mid lo hi s : Nat} (h : MgB a m b mid lo hi) (h1 : lo ≤ s) (h2 : s ≤ hi) : m ≤ mid + m - s ∧ mid + m - s ≤ b ∧ a ≤ s ∧ s ≤ m ∧ s ≤ mid ∧ mid ≤ mid + m - s := by
  have := h.am; have := h.mb
  obtain ⟨k1, k2, k3, k4, k5, k6, k7, k8, k9, k10⟩ := h.ok
  by_cases hc : mid < m
  · have := k9 hc; omega
  · have := k10 (by omega); omega

theorem halves_of (hS : SWO lt) {a m b mid lo hi s : Nat} {d d1 : Array α} (B : MgB a m b mid lo hi) (hs1 : SortedIn lt a m d) (hs2 : SortedIn lt m b d)
    (hq : Srch (fun c => lt d[mid + m - 1 - c]! d[c]!) lo hi s s) (hr : Rot s m (mid + m - s) d d1) : Halves lt a s mid (mid + m - s) b d1 := by
  obtain ⟨q1, _, q3, q4, q5⟩ := hq
  obtain ⟨n1, n2, n3, n4, n5, n6⟩ := B.ends q1 q3
  have a1 := B.am; have a2 := B.mb
  obtain ⟨k1, k2, k3, k4, k5, k6, k7, k8, k9, k10⟩ := B.ok
  obtain ⟨e, he⟩ : ∃ e, mid + m - s = e := ⟨_, rfl⟩
  rw [he] at n1 n2 n6 hr ⊢
  have hem : e + s = mid + m := by omega
  -- the four parts
  have g1 : ∀ x, x < s → d1[x]! = d[x]! := fun x hx => by rw [hr.2 x, if_neg (by omega), if_neg (by omega)]
  have g2 : ∀ x, s ≤ x → x < mid → d1[x]! = d[x - s + m]! := fun x h1 h2 => by rw [hr.2 x, if_pos (by omega)]
  have g3 : ∀ x, mid ≤ x → x < e → d1[x]! = d[x - (e - m)]! := fun x h1 h2 => by rw [hr.2 x, if_neg (by omega), if_pos (by omega)]
  have g4 : ∀ x, e ≤ x → d1[x]! = d[x]! := fun x h1 => by rw [hr.2 x, if_neg (by omega), if_neg (by omega)]
  -- what the search says of the two places
  have t1 : s < m → m < e → ∀ x, m ≤ x → x < e → ∀ y, s ≤ y → y < m → lt d[x]! d[y]! = true ∨ s = hi := fun h1 h2 x x1 x2 y y1 y2 => by
    by_cases h3 : s < hi
    · left
      have := q5 s (Nat.le_refl _) h3
      simp only at this
      rw [show mid + m - 1 - s = e - 1 by omega] at this
      have c1 : lt d[e - 1]! d[x]! = false := by
        rcases Nat.eq_or_lt_of_le (show x ≤ e - 1 by omega) with rfl | h
        · exact hS.irrefl _
        · exact hs2 _ _ x1 h (by omega)
      have c2 : lt d[y]! d[s]! = false := by
        rcases Nat.eq_or_lt_of_le y1 with rfl | h
        · exact hS.irrefl _
        · exact hs1 _ _ (by omega) h y2
      cases e2 : lt d[x]! d[y]! with
      | true => rfl
      | false => rw [hS.ntrans _ _ _ c1 (hS.ntrans _ _ _ e2 c2)] at this; cases this
    · right; omega
  have t2 : ∀ x, a ≤ x → x < s → ∀ y, e ≤ y → y < b → lt d[y]! d[x]! = false := fun x x1 x2 y y1 y2 => by
    by_cases h3 : lo < s
    · have := q4 (s - 1) (by omega) (by omega)
      simp only at this
      rw [show mid + m - 1 - (s - 1) = e by omega] at this
      have c1 : lt d[s - 1]! d[x]! = false := by
        rcases Nat.eq_or_lt_of_le (show x ≤ s - 1 by omega) with rfl | h
        · exact hS.irrefl _
        · exact hs1 _ _ x1 h (by omega)
      have c2 : lt d[y]! d[e]! = false := by
        rcases Nat.eq_or_lt_of_le y1 with rfl | h
        · exact hS.irrefl _
        · exact hs2 _ _ (by omega) h y2
      exact hS.ntrans _ _ _ c2 (hS.ntrans _ _ _ this c1)
    · exfalso
      by_cases hc : mid < m
      · have := k9 hc; omega
      · have := k10 (by omega); omega
  refine ⟨fun x y h1 h2 h3 => ?_, fun x y h1 h2 h3 => ?_, fun x y h1 h2 h3 => ?_, fun x y h1 h2 h3 => ?_, fun x y h1 h2 h3 h4 => ?_⟩
  · rw [g1 x (by omega), g1 y h3]; exact hs1 _ _ h1 h2 (by omega)
  · rw [g2 x h1 (by omega), g2 y (by omega) h3]; exact hs2 _ _ (by omega) (by omega) (by omega)
  · rw [g3 x h1 (by omega), g3 y (by omega) h3]; exact hs1 _ _ (by omega) (by omega) (by omega)
  · rw [g4 x h1, g4 y (by omega)]; exact hs2 _ _ (by omega) h2 h3
  · by_cases c1 : x < s
    · rw [g1 x c1]
      by_cases c2 : y < e
      · rw [g3 y h3 c2]
        exact hs1 _ _ h1 (by omega) (by omega)
      · rw [g4 y (by omega)]
        exact t2 x h1 c1 y (by omega) h4
    · rw [g2 x (by omega) h2]
      by_cases c2 : y < e
      · rw [g3 y h3 c2]
        rcases t1 (by omega) (by omega) (x - s + m) (by omega) (by omega) (y - (e - m)) (by omega) (by omega) with h | h
        · exact hS.asymmA h
        · exfalso
          by_cases hc : mid < m
          · have := k9 hc; omega
          · have := k10 (by omega); omega
      · rw [g4 y (by omega)]
        exact hs2 _ _ (by omega) (by omega) h4

/-- Both halves sorted: all is. -/
theorem Halves.join {a s mid e b : Nat} {d d1 d2 d3 : Array α} (ha : a ≤ mid) (hm : mid ≤ b) (hb : b ≤ d.size) (hp : PermIn a b d d1) (h : Halves lt a s mid e b d1) (p2 : PermIn a mid d1 d2) (s2 : SortedIn lt a mid d2) (p3 : PermIn mid b d2 d3) (s3 : SortedIn lt mid b d3) :
    PermIn a b d d3 ∧ SortedIn lt a b d3 := by
  have z1 : d1.size = d.size := hp.1
  have z2 : d2.size = d.size := p2.1.trans z1
  refine ⟨permIn_trans _ _ _ _ _ hp (permIn_trans _ _ _ _ _ (permIn_mono _ _ a mid a b (Nat.le_refl _) hm (by omega) p2) (permIn_mono _ _ mid b a b ha (Nat.le_refl _) (by omega) p3)), fun x y h1 h2 h3 => ?_⟩
  have o2 : ∀ x y, a ≤ x → x < mid → mid ≤ y → y < b → lt d1[y]! d2[x]! = false := fun x y h1 h2 h3 h4 =>
    permIn_all d1 d2 a mid (fun v => ∀ y, mid ≤ y → y < b → lt d1[y]! v = false) (by omega) p2 (fun i h1 h2 y h3 h4 => h.ord i y h1 h2 h3 h4) x h1 h2 y h3 h4
  have o3 : ∀ x y, a ≤ x → x < mid → mid ≤ y → y < b → lt d3[y]! d2[x]! = false := fun x y h1 h2 h3 h4 =>
    permIn_all d2 d3 mid b (fun v => ∀ x, a ≤ x → x < mid → lt v d2[x]! = false) (by omega) p3 (fun i h3 h4 x h1 h2 => by rw [p2.2.1 i (Or.inr h3)]; exact o2 x i h1 h2 h3 h4) y h3 h4 x h1 h2
  have k3 : ∀ x, x < mid → d3[x]! = d2[x]! := fun x hx => p3.2.1 x (Or.inl hx)
  by_cases c1 : y < mid
  · rw [k3 y c1, k3 x (by omega)]; exact s2 x y h1 h2 c1
  · by_cases c2 : x < mid
    · rw [k3 x c2]; exact o3 x y h1 c2 (by omega) h3
    · exact s3 x y (by omega) h2 h3

/-- From a on, each run of n is sorted, up to e. -/
def Runs (lt : α → α → Bool) (n e a : Nat) (d : Array α) : Prop := ∀ q, a + q * n < e → SortedIn lt (a + q * n) (min (a + (q + 1) * n) e) d

theorem Runs.first {n e a : Nat} {d : Array α} (h : Runs lt n e a d) (ha : a + n ≤ e) (hn : 0 < n) : SortedIn lt a (a + n) d := by
  have := h 0 (by omega)
  rw [show a + 0 * n = a by omega, show a + (0 + 1) * n = a + n by omega, Nat.min_eq_left ha] at this
  exact this
theorem Runs.all {n e a : Nat} {d : Array α} (h : Runs lt n e a d) (ha : e ≤ a + n) : SortedIn lt a e d := by
  by_cases hx : a < e
  · have := h 0 (by omega)
    rw [show a + 0 * n = a by omega, show a + (0 + 1) * n = a + n by omega, Nat.min_eq_right ha] at this
    exact this
  · intro x y h1 h2 h3; omega
theorem Runs.tail {n e a : Nat} {d : Array α} (h : Runs lt n e a d) : Runs lt n e (a + n) d := by
  intro q hq
  have e1 : a + n + q * n = a + (q + 1) * n := by rw [Nat.add_mul]; omega
  have e2 : a + n + (q + 1) * n = a + (q + 1 + 1) * n := by rw [Nat.add_mul (q + 1)]; omega
  rw [e1] at hq ⊢
  rw [e2]
  exact h (q + 1) hq
theorem Runs.congr {n e a : Nat} {d d' : Array α} (h : Runs lt n e a d) (hd : ∀ x, a ≤ x → x < e → d'[x]! = d[x]!) : Runs lt n e a d' := by
  intro q hq x y h1 h2 h3
  have : y < e := by omega
  rw [hd x (by omega) (by omega), hd y (by omega) this]
  exact h q hq x y h1 h2 h3
/-- A run more behind those that are. -/
theorem Runs.snoc {n k : Nat} {d d' : Array α} {e : Nat} (h : Runs lt n (k * n) 0 d) (hd : ∀ x, x < k * n → d'[x]! = d[x]!) (he : e ≤ (k + 1) * n) (hs : SortedIn lt (k * n) e d') (hke : k * n ≤ e) : Runs lt n e 0 d' := by
  intro q hq
  rw [Nat.zero_add] at hq ⊢
  rw [Nat.zero_add]
  have hn : 0 < n := by
    rcases Nat.eq_zero_or_pos n with h0 | h0
    · subst h0; simp at hq; omega
    · exact h0
  by_cases h1 : q < k
  · have h2 : (q + 1) * n ≤ k * n := Nat.mul_le_mul_right n h1
    rw [Nat.min_eq_left (by omega)]
    have h3 := h q (by rw [Nat.zero_add]; have := Nat.mul_lt_mul_of_pos_right h1 hn; omega)
    rw [Nat.zero_add, Nat.zero_add, Nat.min_eq_left h2] at h3
    intro x y a1 a2 a3
    rw [hd x (by omega), hd y (by omega)]
    exact h3 x y a1 a2 a3
  · have h2 : q < k + 1 := by
      refine Nat.lt_of_not_le fun h4 => ?_
      have := Nat.mul_le_mul_right n h4
      omega
    obtain rfl : q = k := by omega
    rw [Nat.min_eq_right he]
    exact hs
theorem Runs.none (n a : Nat) (d : Array α) : Runs lt n a a d := fun q hq => by have : a + q * n < a := hq; omega
end Go.Proofs.Ytchpekidnbdpdaa


/- The document's layer 21, plain: what Unique, place, cycle answer. -/
namespace Go.Proofs.Ytchpekidnbdpdaa
open Go.RowKit

/-- Is y ahead of x, the i-th, and of its ID? -/
def ahd (x y : Sp) (k i : Nat) : Bool := decide (y.id = x.id) && (decide (spCmp y x < 0) || (decide (spCmp y x = 0) && decide (k < i)))
/-- Is none of the first n ahead of x, the i-th? -/
def fstTo (l : List Sp) (x : Sp) (i n : Nat) : Bool := (List.range n).all fun k => match l[k]? with | some y => !ahd x y k i | none => true
/-- Where an ID is put: looked for from k on down. -/
def insK (id : Nat) (out : List Sp) : Nat → Nat
  | 0 => 0
  | k + 1 => match out[k]? with
    | some y => if id < y.id then insK id out k else k + 1
    | none => k + 1
def insAt (x : Sp) (out : List Sp) : List Sp := out.take (insK x.id out out.length) ++ x :: out.drop (insK x.id out out.length)
/-- What Unique has of the first i. -/
def uniqTo (l : List Sp) : Nat → List Sp
  | 0 => []
  | i + 1 => match l[i]? with
    | some x => if fstTo l x i l.length = true then insAt x (uniqTo l i) else uniqTo l i
    | none => uniqTo l i
def uniq (l : List Sp) : List Sp := uniqTo l l.length
/-- The place of an ID. -/
def plcG (id : Nat) : List Sp → Nat → Int
  | [], _ => -1
  | x :: l, i => if x.id = id then (i : Int) else plcG id l (i + 1)
def plc (l : List Sp) (id : Nat) : Int := plcG id l 0
def cycGo (l : List Sp) (i : Nat) (x : Sp) : Nat → Int → Bool
  | 0, _ => false
  | n + 1, p => if p < 0 then false else match l[p.toNat]? with
    | none => false
    | some y => if x.parent = 0 ∨ y.id < x.id then false else if p = (i : Int) then true else if y.parent = 0 then false else cycGo l i x n (plc l y.parent)
/-- Is the i-th on a cycle, and has the least ID of it? -/
def cyc (l : List Sp) (i : Nat) (x : Sp) : Bool := cycGo l i x (l.length + 1) (plc l x.parent)
end Go.Proofs.Ytchpekidnbdpdaa


/- The document's layer 21: place, cycle, shift. -/
namespace Go.Proofs.Ytchpekidnbdpdaa
open Go.RowKit
theorem loadSp_shutP (a : Addr) : loadVar 32 a = loadK 32 a := rfl
attribute [local go_sem ↓] loadSp_shutP

theorem plcG_rng (id : Nat) : ∀ (l : List Sp) (i : Nat), -1 ≤ plcG id l i ∧ plcG id l i < ((i + l.length : Nat) : Int) ∧ (0 ≤ plcG id l i → (i : Int) ≤ plcG id l i)
  | [], i => by rw [plcG]; exact ⟨by omega, by simp only [List.length_nil]; omega, by omega⟩
  | x :: l, i => by
    rw [plcG]
    split
    · exact ⟨by omega, by simp only [List.length_cons]; omega, by omega⟩
    · have h := plcG_rng id l (i + 1)
      refine ⟨h.1, by have := h.2.1; simp only [List.length_cons]; omega, fun h0 => by have := h.2.2 h0; omega⟩
theorem plc_rng (l : List Sp) (id : Nat) : -1 ≤ plc l id ∧ plc l id < (l.length : Int) := by
  have h := plcG_rng id l 0
  exact ⟨h.1, by have := h.2.1; simp only [Nat.zero_add] at this; exact this⟩
theorem plcG_step {l : List Sp} {k id : Nat} {x : Sp} (h : l[k]? = some x) : plcG id (l.drop k) k = if x.id = id then (k : Int) else plcG id (l.drop (k + 1)) (k + 1) := by
  obtain ⟨hk, rfl⟩ := List.getElem?_eq_some_iff.1 h
  rw [List.drop_eq_getElem_cons hk, plcG]
set_option maxRecDepth 100000 in
set_option maxHeartbeats 2000000 in
theorem raPlace {A : Option Addr} {n c B : Nat} (l : List El) (id : Nat) (w : World) (h : RbS w B A l) (hn : l.length = n) (hnl : n ≤ 9223372036854775807) :
    Calls Try.prog 45 #[.slice A n c, .int .u64 id] w fun e w' => e = .returned (.int .i64 (plc (sps l) id)) ∧ w' = w := by
  obtain ⟨q, hq⟩ : ∃ q, plc (sps l) id = q := ⟨_, rfl⟩
  rw [hq]
  have HQ := Lib.hid hq
  have HN := Lib.hid hn
  clear hq hn
  go_enter Try.func45, Try.ntmps45
  go_wp2_with fail
  go_loop [5] (fun i_ => ∃ k : Nat, k ≤ n ∧ i_ = .int .i64 k ∧ plcG id ((sps l).drop k) k = q) (fun i_ => n - (intOf i_).toNat)
  case atStart => exact ⟨0, by omega, rfl, HQ.out⟩
  case round =>
    obtain ⟨k, hk, rfl, hr⟩ := hrel
    by_cases hlt : k < n
    · have hlt' : (k : Int) < (n : Int) := by omega
      obtain ⟨e, he⟩ : ∃ e, l[k]? = some e := ⟨_, List.getElem?_eq_getElem (by rw [HN.out]; exact hlt)⟩
      obtain ⟨b, o, e1, hb, hc, -⟩ := h.get he
      subst e1
      have c2 : w.cell? ⟨b, o + k * 11 + 2, none⟩ = some (.int .u64 e.s.id) := hc 2 (by omega)
      have hst := plcG_step (id := id) (sps_get he)
      rw [hr] at hst
      have HST := Lib.hid hst
      obtain ⟨y, hy⟩ : ∃ y, e.s.id = y := ⟨_, rfl⟩
      rw [hy] at c2 HST
      clear hst hr hc he hy
      by_cases hid : y = id
      · subst hid
        have hst := HST.out
        rw [if_pos rfl] at hst
        subst hst
        go_wp2_with fail
        go_ret
        exact ⟨rfl, rfl⟩
      · have hst := HST.out
        rw [if_neg hid] at hst
        have hne : ((y : Int) == (id : Int)) = false := by simp; omega
        have HS := Lib.hid hst
        clear hst HST
        go_wp2_with fail
        exact ⟨⟨k + 1, by omega, by go_num, HS.out.symm⟩, by simp only [intOf]; omega⟩
    · have hlt' : decide ((k : Int) < (n : Int)) = false := by simp; omega
      rw [List.drop_eq_nil_of_le (by rw [sps_length, HN.out]; omega), plcG] at hr
      subst hr
      go_wp2_with fail
      go_ret
      exact ⟨rfl, rfl⟩
end Go.Proofs.Ytchpekidnbdpdaa


/- The document's layer 21: cycle. -/
namespace Go.Proofs.Ytchpekidnbdpdaa
open Go.RowKit
theorem loadSp_shutC (a : Addr) : loadVar 32 a = loadK 32 a := rfl
attribute [local go_sem ↓] loadSp_shutC

theorem RbS.at {w : World} {B : Nat} {b o : Nat} {l : List El} (h : RbS w B (some ⟨b, o, none⟩) l) {k : Nat} {e : El} (hk : l[k]? = some e) : w.cell? ⟨b, o + k * 11 + 2, none⟩ = some (.int .u64 e.s.id) ∧ w.cell? ⟨b, o + k * 11 + 3, none⟩ = some (.int .u64 e.s.parent) := by
  obtain ⟨b', o', e1, -, hc, -⟩ := h.get hk
  cases e1
  exact ⟨hc 2 (by omega), hc 3 (by omega)⟩
set_option maxRecDepth 100000 in
set_option maxHeartbeats 4000000 in
theorem raCycle {A : Option Addr} {n c B i : Nat} (l : List El) (x : El) (w : World) (h : RbS w B A l) (hn : l.length = n) (hnl : n ≤ 1000000) (hx : l[i]? = some x) :
    Calls Try.prog 46 #[.slice A n c, .int .i64 i] w fun e w' => e = .returned (.bool (cyc (sps l) i x.s)) ∧ ∃ d, w' = w.drewN d := by
  have hin : i < n := by rw [← hn]; exact (List.getElem?_eq_some_iff.1 hx).1
  have hin' : (i : Int) < (n : Int) := by omega
  obtain ⟨b, o, e1, -, -, -⟩ := h.get hx
  subst e1
  obtain ⟨q, hq⟩ : ∃ q, cyc (sps l) i x.s = q := ⟨_, rfl⟩
  rw [hq]
  unfold cyc at hq
  rw [sps_length, hn] at hq
  have HQ := Lib.hid hq
  have HN := Lib.hid hn
  have HX := Lib.hid hx
  have HR : Hid (∀ (d k : Nat) (e : El), l[k]? = some e → (w.drewN d).cell? ⟨b, o + k * 11 + 2, none⟩ = some (.int .u64 e.s.id) ∧ (w.drewN d).cell? ⟨b, o + k * 11 + 3, none⟩ = some (.int .u64 e.s.parent)) := Lib.hid fun d k e he => (h.drewN d).at he
  have CP : Hid (∀ (d id : Nat), Calls Try.prog 45 #[.slice (some ⟨b, o, none⟩) n c, .int .u64 id] (w.drewN d) fun e w' => e = .returned (.int .i64 (plc (sps l) id)) ∧ w' = w.drewN d) := Lib.hid fun d id => raPlace l id _ (h.drewN d) hn (by omega)
  have hpr : ∀ id, -1 ≤ plc (sps l) id ∧ plc (sps l) id < (n : Int) := fun id => by
    have := plc_rng (sps l) id
    rwa [sps_length, hn] at this
  have HPR := Lib.hid hpr
  have hx0 := HR.out 0 i x hx
  have hx1 : w.cell? ⟨b, o + i * 11 + 3, none⟩ = some (.int .u64 x.s.parent) := hx0.2
  obtain ⟨xp, hxp⟩ : ∃ xp, x.s.parent = xp := ⟨_, rfl⟩
  obtain ⟨xi, hxi⟩ : ∃ xi, x.s.id = xi := ⟨_, rfl⟩
  rw [hxp] at hx1 hq
  have HXP := Lib.hid hxp
  have HXI := Lib.hid hxi
  have cp0 : Calls Try.prog 45 #[.slice (some ⟨b, o, none⟩) n c, .int .u64 xp] w fun e w' => e = .returned (.int .i64 (plc (sps l) xp)) ∧ w' = w := CP.out 0 xp
  clear hpr hn hx hx0 h hxp hxi hq
  go_enter Try.func46, Try.ntmps46
  go_wp2_with fail
  refine cp0.mono ?_
  rintro e w1 ⟨rfl, rfl⟩
  go_wp2_with fail
  go_loopw [5, 6] (fun at_ n_ wr => ∃ (p : Int) (k d : Nat), k ≤ n + 1 ∧ -1 ≤ p ∧ p < n ∧ at_ = .int .i64 p ∧ n_ = .int .i64 k ∧ Hid (cycGo (sps l) i x.s (n + 1 - k) p = q) ∧ wr = w1.drewN d) (fun _ n_ _ => n + 1 - (intOf n_).toNat)
  case atStart => exact ⟨plc (sps l) xp, 0, 0, by omega, (HPR.out xp).1, (HPR.out xp).2, rfl, rfl, Lib.hid (by rw [← HXP.out]; exact HQ.out), rfl⟩
  case round =>
    obtain ⟨p, k, d, hk, hp1, hp2, rfl, rfl, HG, rfl⟩ := hrel
    by_cases hkn : k ≤ n
    · have hkn' : (k : Int) ≤ (n : Int) := by omega
      by_cases hp0 : 0 ≤ p
      · obtain ⟨j, hj⟩ : ∃ j : Nat, p = (j : Int) := ⟨p.toNat, by omega⟩
        subst hj
        have hjn : j < n := by omega
        have hjn' : (j : Int) < (n : Int) := by omega
        obtain ⟨y, hy⟩ : ∃ y, l[j]? = some y := ⟨_, List.getElem?_eq_getElem (by rw [HN.out]; exact hjn)⟩
        have hg := HG.out
        rw [show n + 1 - k = (n - k) + 1 from by omega, cycGo, if_neg (by omega), Int.toNat_natCast, sps_get hy] at hg
        simp only [] at hg
        rw [HXP.out, HXI.out] at hg
        obtain ⟨yp, hyp⟩ : ∃ yp, y.s.parent = yp := ⟨_, rfl⟩
        obtain ⟨yi, hyi⟩ : ∃ yi, y.s.id = yi := ⟨_, rfl⟩
        rw [hyp, hyi] at hg
        have HCX : Hid (∀ d, (w1.drewN d).cell? ⟨b, o + i * 11 + 2, none⟩ = some (.int .u64 xi) ∧ (w1.drewN d).cell? ⟨b, o + i * 11 + 3, none⟩ = some (.int .u64 xp)) := Lib.hid fun d => by
          have := HR.out d i x HX.out
          rwa [HXP.out, HXI.out] at this
        have HCY : Hid (∀ d, (w1.drewN d).cell? ⟨b, o + j * 11 + 2, none⟩ = some (.int .u64 yi) ∧ (w1.drewN d).cell? ⟨b, o + j * 11 + 3, none⟩ = some (.int .u64 yp)) := Lib.hid fun d => by
          have := HR.out d j y hy
          rwa [hyp, hyi] at this
        have HG1 := Lib.hid hg
        clear hg hy hyp hyi HG
        have cx2 : w1.cell? ⟨b, o + i * 11 + 2, none⟩ = some (.int .u64 xi) := (HCX.out 0).1
        have cx3 : w1.cell? ⟨b, o + i * 11 + 3, none⟩ = some (.int .u64 xp) := (HCX.out 0).2
        have cy2 : w1.cell? ⟨b, o + j * 11 + 2, none⟩ = some (.int .u64 yi) := (HCY.out 0).1
        have cy3 : w1.cell? ⟨b, o + j * 11 + 3, none⟩ = some (.int .u64 yp) := (HCY.out 0).2
        by_cases hx0 : xp = 0
        · subst hx0
          have hg := HG1.out
          rw [if_pos (.inl rfl)] at hg
          subst hg
          go_wp2_with fail
          go_quiet (fail)
          go_wp2_with fail
          go_ret
          exact ⟨rfl, _, by first | rfl | exact World.drewN_drewN _ _ _⟩
        have hx0' : ((xp : Int) == 0) = false := by simp; omega
        by_cases hlt : yi < xi
        · have hlt' : decide ((yi : Int) < (xi : Int)) = true := by simp; omega
          have hlt'' : (yi : Int) < (xi : Int) := by omega
          have hg := HG1.out
          rw [if_pos (.inr hlt)] at hg
          subst hg
          go_wp2_with fail
          go_quiet (fail)
          go_wp2_with fail
          go_ret
          exact ⟨rfl, _, by first | rfl | exact World.drewN_drewN _ _ _⟩
        have hlt' : decide ((yi : Int) < (xi : Int)) = false := by simp; omega
        have hlt'' : ¬ (yi : Int) < (xi : Int) := by omega
        have hg := HG1.out
        rw [if_neg (by rw [not_or]; exact ⟨hx0, hlt⟩)] at hg
        have HG2 := Lib.hid hg
        clear hg HG1
        go_wp2_with fail
        go_quiet (fail)
        by_cases hji : j = i
        · subst hji
          have hg := HG2.out
          rw [if_pos rfl] at hg
          subst hg
          go_wp2_with fail
          go_ret
          exact ⟨rfl, _, by first | rfl | exact World.drewN_drewN _ _ _⟩
        have hji' : ((j : Int) == (i : Int)) = false := by simp; omega
        have hg := HG2.out
        rw [if_neg (by omega)] at hg
        have HG3 := Lib.hid hg
        clear hg HG2
        obtain ⟨d2, hd2⟩ : ∃ d2, (w1.drewN d).drewN nq = w1.drewN d2 := ⟨_, World.drewN_drewN _ _ _⟩
        rw [hd2]
        clear hd2
        by_cases hy0 : yp = 0
        · subst hy0
          have hg := HG3.out
          rw [if_pos rfl] at hg
          subst hg
          go_wp2_with fail
          go_ret
          exact ⟨rfl, _, rfl⟩
        have hy0' : ((yp : Int) == 0) = false := by simp; omega
        have hg := HG3.out
        rw [if_neg hy0] at hg
        have HG4 := Lib.hid hg
        clear hg HG3
        go_wp2_with fail
        refine (CP.out d2 yp).mono ?_
        rintro e w3 ⟨rfl, rfl⟩
        go_wp2_with fail
        exact ⟨⟨plc (sps l) yp, k + 1, d2, by omega, (HPR.out yp).1, (HPR.out yp).2, rfl, by go_num, Lib.hid (by rw [show n + 1 - (k + 1) = n - k from by omega]; exact HG4.out), rfl⟩, by simp only [intOf]; omega⟩
      · have hp0' : decide ((0 : Int) ≤ p) = false := by simp; omega
        have hg := HG.out
        rw [show n + 1 - k = (n - k) + 1 from by omega, cycGo, if_pos (by omega)] at hg
        subst hg
        go_wp2_with fail
        go_ret
        exact ⟨rfl, _, rfl⟩
    · have hkn' : decide ((k : Int) ≤ (n : Int)) = false := by simp; omega
      have hg := HG.out
      rw [show n + 1 - k = 0 from by omega, cycGo] at hg
      subst hg
      go_wp2_with fail
      go_ret
      exact ⟨rfl, _, rfl⟩
end Go.Proofs.Ytchpekidnbdpdaa

