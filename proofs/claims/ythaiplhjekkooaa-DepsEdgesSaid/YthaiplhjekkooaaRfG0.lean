/- bootprintkit.SmallAdjusted. -/
import Derived.BigRegion
import Derived.Test.YthaiplhjekkooaaSpS0
import Derived.Test.YthaiplhjekkooaaAeP
namespace Go.Proofs.Ythaiplhjekkooaa
open Go.RowKit
theorem loadSp_shutG0 (a : Addr) : loadVar 43 a = loadK 43 a := rfl
attribute [local go_sem ↓] loadSp_shutG0

set_option maxRecDepth 100000 in
theorem loadK_aeSpG {w : World} {b o i : Nat} {e : AE} (h : ∀ j, j < 14 → w.cell? ⟨b, o + (i * 14 + j), none⟩ = (aeC e)[j]?) : (loadK 43 ⟨b, o + i * 14, none⟩).run Try.prog w = .ok (spV e.a.s e.A e.n e.c) w :=
  run_loadVar_cellsK w _ _ ⟨b, o + i * 14, none⟩ (spC e.a.s e.A e.n e.c).toList Try.underlying43 rfl (by rfl) (fun j v hv => by
    have hj : j < 11 := (List.getElem?_eq_some_iff.1 hv).1
    rw [Addr.add_lit, Nat.add_assoc, h j (by omega), ← hv]
    have : j = 0 ∨ j = 1 ∨ j = 2 ∨ j = 3 ∨ j = 4 ∨ j = 5 ∨ j = 6 ∨ j = 7 ∨ j = 8 ∨ j = 9 ∨ j = 10 := by omega
    rcases this with rfl | rfl | rfl | rfl | rfl | rfl | rfl | rfl | rfl | rfl | rfl <;> rfl)
/-- If it says yes, they are few and each is small. -/
def SmalladPost (w : World) (l : List AE) (N : Int) (e : Ending) (w' : World) : Prop :=
  ∃ q, e = .returned (.bool q) ∧ Below w.heap.size w w' ∧ (q = true → (l.length : Int) ≤ N)
set_option maxRecDepth 100000 in
set_option maxHeartbeats 2000000 in
theorem kitSmallAds {A : Option Addr} {c n B : Nat} {l : List AE} (N most : Int) (w : World) (hf : RbA w B A l) (hn : l.length = n) (hB : B ≤ w.heap.size) (hnl : n ≤ 9223372036854775807) (hN : 0 ≤ N) :
    Calls Try.prog 9 #[.slice A n c, .int .i64 N, .int .i64 most] w (SmalladPost w l N) := by
  have HN := Lib.hid hn
  clear hn
  go_enter Try.func9, Try.ntmps9
  go_wp2
  go_loopw [7] (fun iv_ wr => ∃ j : Nat, j ≤ n ∧ iv_ = .int .i64 j ∧ Below w.heap.size w wr) (fun i _ => n - (intOf i).toNat)
  case atStart => exact ⟨0, by omega, rfl, Below.refl _ _⟩
  case round =>
    obtain ⟨j, hj, rfl, hb⟩ := hrel
    by_cases hlt : j < n
    · have hlt' : (j : Int) < (n : Int) := by omega
      by_cases hjN : (j : Int) ≤ N
      · obtain ⟨x, hx⟩ : ∃ x, l[j]? = some x := ⟨_, List.getElem?_eq_getElem (by rw [HN.out]; exact hlt)⟩
        obtain ⟨b, o, rfl, hbb, hc, hok⟩ := (hf.below (hb.mono hB)).get hx
        have hld := loadK_aeSpG hc
        have hsm := kitSmall (c := x.c) x.a.s most wr hok.rd hok.len (Nat.le_trans hB hb.size) hok.max
        obtain ⟨q, hq⟩ : ∃ q, smallB x.a.s most = q := ⟨_, rfl⟩
        rw [hq] at hsm
        have HS := Lib.hid hsm
        clear hc hq hsm hx hok
        cases q with
        | false =>
          go_wp2_with (go_at_call 31; refine HS.out.mono ?_; rintro e w' ⟨rfl, hb'⟩)
          go_ret
          exact ⟨false, rfl, hb.trans (hb'.mono hb.size), fun h => by cases h⟩
        | true =>
          go_wp2_with (go_at_call 31; refine HS.out.mono ?_; rintro e w' ⟨rfl, hb'⟩)
          go_roundw
          case rel => exact ⟨j + 1, by omega, by go_num, hb.trans (hb'.mono hb.size)⟩
          case measure => simp [intOf]; omega
      · have hjN' : decide ((j : Int) ≤ N) = false := by simp; omega
        have hnN : decide ((n : Int) ≤ N) = false := by simp; omega
        go_wp2
        go_ret
        exact ⟨false, rfl, hb, fun h => by cases h⟩
    · have hlt' : decide ((j : Int) < (n : Int)) = false := by simp; omega
      obtain rfl : j = n := by omega
      by_cases hnN : (j : Int) ≤ N
      · go_wp2
        go_ret
        exact ⟨true, rfl, hb, fun _ => by rw [HN.out]; exact hnN⟩
      · have hnN' : decide ((j : Int) ≤ N) = false := by simp; omega
        go_wp2
        go_ret
        exact ⟨false, rfl, hb, fun h => by cases h⟩

end Go.Proofs.Ythaiplhjekkooaa
