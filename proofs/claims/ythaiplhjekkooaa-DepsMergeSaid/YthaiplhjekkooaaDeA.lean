/- Edges: what they are, as they lie; Bucket; the document's before; kit's SameEdges. -/
import Derived.Laws.Rows
import Derived.Laws.Tables
import Derived.Deep.RegionHeld3
import Derived.BigRegion
import Derived.Test.YthaiplhjekkooaaSpPl
import Derived.Test.YthaiplhjekkooaaLoadK
import Derived.Test.YthaiplhjekkooaaRow
namespace Go.Proofs.Ythaiplhjekkooaa
open Go.RowKit
theorem loadEd_shutA (a : Addr) : loadVar 47 a = loadK 47 a := rfl
attribute [local go_sem ↓] loadEd_shutA

structure Ed where
  b : Nat
  f : ByteArray
  t : ByteArray
  n : Nat
deriving DecidableEq
def edC (e : Ed) : List Value := [.int .u64 e.b, .string e.f, .string e.t, .int .u64 e.n]
theorem edC_length (e : Ed) : (edC e).length = 4 := rfl
abbrev edA (e : Ed) : Array Value := #[.int .u64 e.b, .string e.f, .string e.t, .int .u64 e.n]
abbrev edV (e : Ed) : Value := .agg (edA e)
theorem edC_one (e : Ed) : ∀ u ∈ edC e, u.oneCell' = true := by
  intro u hu
  simp [edC] at hu
  rcases hu with h | h | h | h <;> subst h <;> rfl
abbrev eds (l : List Ed) : List Value := flatR edC l
theorem eds_length (l : List Ed) : (eds l).length = l.length * 4 := flatR_length edC_length l
/-- Edges that lie from A on. -/
abbrev RbD (w : World) (B : Nat) (A : Option Addr) (l : List Ed) : Prop := Rd w B A (eds l)
theorem RbD.at {w : World} {B : Nat} {A : Option Addr} {l : List Ed} (h : RbD w B A l) {i : Nat} {e : Ed} (hi : l[i]? = some e) :
    ∃ b o, A = some ⟨b, o, none⟩ ∧ b < B ∧ ∀ j, j < 4 → w.cell? ⟨b, o + (i * 4 + j), none⟩ = (edC e)[j]? := flatR_at edC_length (by omega) h hi
set_option maxRecDepth 100000 in
theorem loadK_ed {w : World} {b o i : Nat} {e : Ed} (h : ∀ j, j < 4 → w.cell? ⟨b, o + (i * 4 + j), none⟩ = (edC e)[j]?) : (loadK 47 ⟨b, o + i * 4, none⟩).run Try.prog w = .ok (edV e) w := by
  have hl := run_loadCells_list (P := Try.prog) w ⟨b, o + i * 4, none⟩ (edC e) (fun j v hv => by
    have hj : j < 4 := by have := (List.getElem?_eq_some_iff.1 hv).1; rwa [edC_length] at this
    rw [Addr.add_lit, Nat.add_assoc, h j hj, hv])
  have hi : (Try.prog.info? 47).map (·.size) = some (edC e).length := by rfl
  cases hq : Try.prog.info? 47 with
  | none => simp [hq] at hi
  | some i0 =>
    have hs : i0.size = (edC e).length := by simpa [hq] using hi
    have hagg : (isAgg 47).run Try.prog w = .ok true w := by
      unfold isAgg
      rw [Sem.run_bind, run_underlying Try.underlying47 w]
      rfl
    show (loadVar _ _).run _ _ = _
    simp [loadVar, Sem.run_bind, hagg, sizeOf, typeInfo, hq, hs, hl]
    rfl
set_option maxRecDepth 100000 in
theorem loadK_edB {w : World} {g : Nat} {e : Ed} (h : Bk w g 47 (edA e)) : (loadK 47 ⟨g, 0, none⟩).run Try.prog w = .ok (edV e) w :=
  run_loadVar_row w g _ _ (edA e) (0, 0) _ h Try.underlying47 rfl (by rfl)

/-- A bucket. -/
def bktOf (start size : Int) : Nat × Nat := if start < 0 ∨ size < 1 then (0, 2) else ((start / size).toNat, 0)
theorem bkt_num {start size : Int} (h0 : 0 ≤ start) (h1 : 1 ≤ size) (h2 : start ≤ 9223372036854775807) : start.tdiv size = ((start / size).toNat : Int) ∧ (start / size).toNat ≤ 9223372036854775807 := by
  have e : start.tdiv size = start / size := Int.tdiv_eq_ediv_of_nonneg h0
  have h3 : 0 ≤ start / size := Int.ediv_nonneg h0 (by omega)
  have h4 : start / size ≤ start := Int.ediv_le_self _ h0
  rw [e]
  omega
theorem deBucket (start size : Int) (w : World) (hs0 : -9223372036854775808 ≤ start) (hs1 : start ≤ 9223372036854775807) (hz0 : -9223372036854775808 ≤ size) (hz1 : size ≤ 9223372036854775807) :
    Calls Try.prog 12 #[.int .i64 start, .int .i64 size] w fun e w' => e = .returned (.tuple #[.int .u64 (bktOf start size).1, .int .i64 (bktOf start size).2]) ∧ w' = w := by
  unfold bktOf
  by_cases h0 : start < 0
  · rw [if_pos (.inl h0)]
    have d0 : decide (start < 0) = true := by simp [h0]
    go_enter Try.func12, Try.ntmps12
    go_wp2_with fail
    go_ret2
    exact ⟨rfl, rfl⟩
  · have d0 : decide (start < 0) = false := by simp; omega
    by_cases h1 : size < 1
    · rw [if_pos (.inr h1)]
      have d1 : decide (size < 1) = true := by simp [h1]
      go_enter Try.func12, Try.ntmps12
      go_wp2_with fail
      go_ret2
      exact ⟨rfl, rfl⟩
    · rw [if_neg (by omega)]
      have d1 : decide (size < 1) = false := by simp; omega
      obtain ⟨e1, e2⟩ := bkt_num (start := start) (size := size) (by omega) (by omega) hs1
      obtain ⟨q, hq⟩ : ∃ q, (start / size).toNat = q := ⟨_, rfl⟩
      rw [hq] at e1 e2 ⊢
      have hz : size ≠ 0 := by omega
      have hw : IntKind.i64.wrap (q : Int) = (q : Int) := IntWalk.i64_in _ ⟨by omega, by omega⟩
      have hu : IntKind.u64.wrap (q : Int) = (q : Int) := IntWalk.u64_in _ ⟨by omega, by omega⟩
      go_enter Try.func12, Try.ntmps12
      go_wp2_with fail
      go_ret2
      exact ⟨rfl, rfl⟩
theorem rDeBucket (start size : Int) (w : World) (hs0 : -9223372036854775808 ≤ start) (hs1 : start ≤ 9223372036854775807) (hz0 : -9223372036854775808 ≤ size) (hz1 : size ≤ 9223372036854775807) :
    Calls Try.prog 13 #[.int .i64 start, .int .i64 size] w fun e w' => e = .returned (.tuple #[.int .u64 (bktOf start size).1, .int .i64 (bktOf start size).2]) ∧ w' = w := by
  unfold bktOf
  by_cases h0 : start < 0
  · rw [if_pos (.inl h0)]
    have d0 : decide (start < 0) = true := by simp [h0]
    go_enter Try.func13, Try.ntmps13
    go_wp2_with fail
    go_ret2
    exact ⟨rfl, rfl⟩
  · have d0 : decide (start < 0) = false := by simp; omega
    by_cases h1 : size < 1
    · rw [if_pos (.inr h1)]
      have d1 : decide (size < 1) = true := by simp [h1]
      go_enter Try.func13, Try.ntmps13
      go_wp2_with fail
      go_ret2
      exact ⟨rfl, rfl⟩
    · rw [if_neg (by omega)]
      have d1 : decide (size < 1) = false := by simp; omega
      obtain ⟨e1, e2⟩ := bkt_num (start := start) (size := size) (by omega) (by omega) hs1
      obtain ⟨q, hq⟩ : ∃ q, (start / size).toNat = q := ⟨_, rfl⟩
      rw [hq] at e1 e2 ⊢
      have hz : size ≠ 0 := by omega
      have hw : IntKind.i64.wrap (q : Int) = (q : Int) := IntWalk.i64_in _ ⟨by omega, by omega⟩
      have hu : IntKind.u64.wrap (q : Int) = (q : Int) := IntWalk.u64_in _ ⟨by omega, by omega⟩
      go_enter Try.func13, Try.ntmps13
      go_wp2_with fail
      go_ret2
      exact ⟨rfl, rfl⟩
end Go.Proofs.Ythaiplhjekkooaa
