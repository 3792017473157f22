/- Adjusted spans: bootprintkit.SameAdjusted of two lists of one and the same. -/
import Derived.Test.YtlamebbolioljaaAdM
import Derived.Test.YtlamebbolioljaaSpF
import Derived.Test.YtlamebbolioljaaQb
namespace Go.Proofs.Ytlamebbolioljaa
open Go.RowKit
theorem loadSp_shut3 (a : Addr) : loadVar 43 a = loadK 43 a := rfl
attribute [local go_sem ↓] loadSp_shut3
set_option maxRecDepth 100000 in
set_option maxHeartbeats 4000000 in
theorem kitSameAdj1 {A1 A2 : Option Addr} {g1 g2 c1 c2 n B : Nat} (a : Ad) (w : World) (h1 : Bk w g1 45 (adC a A1 n c1)) (h2 : Bk w g2 45 (adC a A2 n c2)) (hf : RbT w B A1 a.s.tags) (hg : RbT w B A2 a.s.tags) (hn : a.s.tags.length = n) (hB : B ≤ w.heap.size) (hnl : n ≤ 9223372036854775807) :
    Calls Try.prog 26 #[.slice (some ⟨g1, 0, none⟩) 1 1, .slice (some ⟨g2, 0, none⟩) 1 1] w fun e w' => e = .returned (.bool true) ∧ Below w.heap.size w w' := by
  have HN := Lib.hid hn
  clear hn
  go_enter Try.func26, Try.ntmps26
  go_wp2
  go_loopw [5] (fun i wr => ∃ j : Int, i = .int .i64 j ∧ (j = 0 ∨ j = 1) ∧ Below w.heap.size w wr) (fun i _ => (1 - intOf i).toNat)
  case atStart => exact ⟨0, rfl, .inl rfl, Below.refl _ _⟩
  case round =>
    obtain ⟨j, rfl, hj, hb⟩ := hrel
    rcases hj with rfl | rfl
    · have k1 := h1.bS hb
      have k2 := h2.bS hb
      have HB := Lib.hid hb
      have hc : ∀ p : BelowBy wr, Calls Try.prog 55 #[spV a.s A1 n c1, spV a.s A2 n c2] p.w fun e w' => e = .returned (.bool true) ∧ ∃ p' : BelowBy wr, w' = p'.w := fun p => calls_belowBy p (by
        have hbp : Below w.heap.size w p.w := HB.out.trans (p.h.mono HB.out.size)
        have h := kitSameTags (c1 := c1) (c2 := c2) a.s a.s.tags a.s.tags p.w (Rd.below hf (hbp.mono hB)) (Rd.below hg (hbp.mono hB)) HN.out HN.out (Nat.le_trans hB hbp.size) hnl
        simpa using h)
      have HC := Lib.hid hc
      have u1 : ∀ p : BelowBy wr, p.w.cell? ⟨g1, 11, none⟩ = some (.int .u64 a.up) := fun p => (k1.bS p.h).cell 11
      have u2 : ∀ p : BelowBy wr, p.w.cell? ⟨g1, 12, none⟩ = some (.int .i64 a.shift) := fun p => (k1.bS p.h).cell 12
      have u3 : ∀ p : BelowBy wr, p.w.cell? ⟨g1, 13, none⟩ = some (.int .i64 a.flag) := fun p => (k1.bS p.h).cell 13
      have u4 : ∀ p : BelowBy wr, p.w.cell? ⟨g2, 11, none⟩ = some (.int .u64 a.up) := fun p => (k2.bS p.h).cell 11
      have u5 : ∀ p : BelowBy wr, p.w.cell? ⟨g2, 12, none⟩ = some (.int .i64 a.shift) := fun p => (k2.bS p.h).cell 12
      have u6 : ∀ p : BelowBy wr, p.w.cell? ⟨g2, 13, none⟩ = some (.int .i64 a.flag) := fun p => (k2.bS p.h).cell 13
      have u7 : ∀ p : BelowBy wr, (loadK 43 ⟨g1, 0, none⟩).run Try.prog p.w = .ok (spV a.s A1 n c1) p.w := fun p => loadK_adSp (k1.bS p.h)
      have u8 : ∀ p : BelowBy wr, (loadK 43 ⟨g2, 0, none⟩).run Try.prog p.w = .ok (spV a.s A2 n c2) p.w := fun p => loadK_adSp (k2.bS p.h)
      clear hc k1 k2 hb
      go_wp2_with fail
      refine wp_region_quiet_below (by kernel_rfl) (by kernel_rfl) ?_
      repeat (first
        | go_big_quiet_step ((go_at_call 55; with_reducible exact HC.out _))
        | quiet_step ((go_at_call 55; with_reducible exact HC.out _)))
      refine wpQuiet_nil ?_
      rintro _ ⟨pq, rfl⟩
      go_wp2
      go_roundw
      case rel => exact ⟨1, rfl, .inr rfl, HB.out.trans (pq.h.mono HB.out.size)⟩
      case measure => simp [intOf]
    · go_wp2
      go_ret
      exact ⟨rfl, hb⟩
end Go.Proofs.Ytlamebbolioljaa
