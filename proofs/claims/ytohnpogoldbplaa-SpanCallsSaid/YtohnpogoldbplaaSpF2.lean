/- Spans: bootprintkit.SameSpan of any two spans. -/
import Derived.Test.YtohnpogoldbplaaSpF2a
import Derived.Test.YtohnpogoldbplaaSpF2b
import Derived.Test.YtohnpogoldbplaaSpF2c
namespace Go.Proofs.Ytohnpogoldbplaa
open Go.RowKit

theorem spC_head {a b : Sp} (h1 : a.hi = b.hi) (h2 : a.lo = b.lo) (h3 : a.id = b.id) (h4 : a.parent = b.parent) (h5 : a.service = b.service) (h6 : a.name = b.name) (h7 : a.kind = b.kind) (h8 : a.start = b.start) (h9 : a.length = b.length) (h10 : a.fails = b.fails) (A : Option Addr) (n c : Nat) : spV b A n c = spV a A n c := by
  rw [spV, spV, spC, spC, h1, h2, h3, h4, h5, h6, h7, h8, h9, h10]
set_option maxRecDepth 100000 in
set_option maxHeartbeats 8000000 in
theorem kitSame {A1 A2 : Option Addr} {c1 c2 n m B : Nat} (a b : Sp) (w : World) (hf : RbT w B A1 a.tags) (hg : RbT w B A2 b.tags) (hn : a.tags.length = n) (hm : b.tags.length = m) (hB : B ≤ w.heap.size) (hnl : n ≤ 9223372036854775807) (hml : m ≤ 9223372036854775807) :
    Calls Try.prog 11 #[spV a A1 n c1, spV b A2 m c2] w fun e w' => e = .returned (.bool (decide (a = b))) ∧ Below w.heap.size w w' := by
  by_cases hall : a.hi = b.hi ∧ a.lo = b.lo ∧ a.id = b.id ∧ a.parent = b.parent ∧ a.service = b.service ∧ a.name = b.name ∧ a.kind = b.kind ∧ a.start = b.start ∧ a.length = b.length ∧ a.fails = b.fails ∧ n = m
  · obtain ⟨h1, h2, h3, h4, h5, h6, h7, h8, h9, h10, rfl⟩ := hall
    have h := kitSameTags (c1 := c1) (c2 := c2) a a.tags b.tags w hf hg hn hm hB hnl
    rw [spC_head h1 h2 h3 h4 h5 h6 h7 h8 h9 h10]
    have e : decide (a = b) = decide (a.tags = b.tags) := by
      rw [decide_eq_decide]
      refine ⟨fun h => by rw [h], fun h => ?_⟩
      cases a; cases b
      simp only at h1 h2 h3 h4 h5 h6 h7 h8 h9 h10 h
      simp only [h1, h2, h3, h4, h5, h6, h7, h8, h9, h10, h]
    rw [e]
    exact h
  have hqf : decide (a = b) = false := by
    rw [decide_eq_false_iff_not]
    rintro rfl
    exact hall ⟨rfl, rfl, rfl, rfl, rfl, rfl, rfl, rfl, rfl, rfl, by omega⟩
  rw [hqf]
  have hcase : a.hi ≠ b.hi ∨ (a.hi = b.hi ∧ (a.lo ≠ b.lo ∨ (a.lo = b.lo ∧ (a.id ≠ b.id ∨ (a.id = b.id ∧ (a.parent ≠ b.parent ∨ (a.parent = b.parent ∧ (a.service ≠ b.service ∨ (a.service = b.service ∧ (a.name ≠ b.name ∨ (a.name = b.name ∧ (a.kind ≠ b.kind ∨ (a.kind = b.kind ∧ (a.start ≠ b.start ∨ (a.start = b.start ∧ (a.length ≠ b.length ∨ (a.length = b.length ∧ (a.fails ≠ b.fails ∨ (a.fails = b.fails ∧ n ≠ m))))))))))))))))))) := by
    by_cases x1 : a.hi = b.hi
    case neg => exact .inl x1
    refine .inr ⟨x1, ?_⟩
    by_cases x2 : a.lo = b.lo
    case neg => exact .inl x2
    refine .inr ⟨x2, ?_⟩
    by_cases x3 : a.id = b.id
    case neg => exact .inl x3
    refine .inr ⟨x3, ?_⟩
    by_cases x4 : a.parent = b.parent
    case neg => exact .inl x4
    refine .inr ⟨x4, ?_⟩
    by_cases x5 : a.service = b.service
    case neg => exact .inl x5
    refine .inr ⟨x5, ?_⟩
    by_cases x6 : a.name = b.name
    case neg => exact .inl x6
    refine .inr ⟨x6, ?_⟩
    by_cases x7 : a.kind = b.kind
    case neg => exact .inl x7
    refine .inr ⟨x7, ?_⟩
    by_cases x8 : a.start = b.start
    case neg => exact .inl x8
    refine .inr ⟨x8, ?_⟩
    by_cases x9 : a.length = b.length
    case neg => exact .inl x9
    refine .inr ⟨x9, ?_⟩
    by_cases x10 : a.fails = b.fails
    case neg => exact .inl x10
    exact .inr ⟨x10, fun x11 => hall ⟨x1, x2, x3, x4, x5, x6, x7, x8, x9, x10, x11⟩⟩
  rcases hcase with x1 | ⟨x1, x2 | ⟨x2, x3 | ⟨x3, x4 | ⟨x4, x5 | ⟨x5, x6 | ⟨x6, x7 | ⟨x7, x8 | ⟨x8, x9 | ⟨x9, x10 | ⟨x10, x11⟩⟩⟩⟩⟩⟩⟩⟩⟩⟩
  · exact kitSameNeA (c1 := c1) (c2 := c2) a b w hf hg hn hm hB (.inl x1) hnl hml
  · exact kitSameNeA (c1 := c1) (c2 := c2) a b w hf hg hn hm hB (.inr (.inl ⟨x1, x2⟩)) hnl hml
  · exact kitSameNeA (c1 := c1) (c2 := c2) a b w hf hg hn hm hB (.inr (.inr (.inl ⟨x1, x2, x3⟩))) hnl hml
  · exact kitSameNeA (c1 := c1) (c2 := c2) a b w hf hg hn hm hB (.inr (.inr (.inr (⟨x1, x2, x3, x4⟩)))) hnl hml
  · exact kitSameNeB (c1 := c1) (c2 := c2) a b w hf hg hn hm hB (.inl ⟨x1, x2, x3, x4, x5⟩) hnl hml
  · exact kitSameNeB (c1 := c1) (c2 := c2) a b w hf hg hn hm hB (.inr (.inl ⟨x1, x2, x3, x4, x5, x6⟩)) hnl hml
  · exact kitSameNeB (c1 := c1) (c2 := c2) a b w hf hg hn hm hB (.inr (.inr (.inl ⟨x1, x2, x3, x4, x5, x6, x7⟩))) hnl hml
  · exact kitSameNeB (c1 := c1) (c2 := c2) a b w hf hg hn hm hB (.inr (.inr (.inr (⟨x1, x2, x3, x4, x5, x6, x7, x8⟩)))) hnl hml
  · exact kitSameNeC (c1 := c1) (c2 := c2) a b w hf hg hn hm hB (.inl ⟨x1, x2, x3, x4, x5, x6, x7, x8, x9⟩) hnl hml
  · exact kitSameNeC (c1 := c1) (c2 := c2) a b w hf hg hn hm hB (.inr (.inl ⟨x1, x2, x3, x4, x5, x6, x7, x8, x9, x10⟩)) hnl hml
  · exact kitSameNeC (c1 := c1) (c2 := c2) a b w hf hg hn hm hB (.inr (.inr (⟨x1, x2, x3, x4, x5, x6, x7, x8, x9, x10, x11⟩))) hnl hml
end Go.Proofs.Ytohnpogoldbplaa
