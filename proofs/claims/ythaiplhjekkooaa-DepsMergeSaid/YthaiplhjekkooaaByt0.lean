/- Bytes and texts, plain. -/
import Derived.Test.YthaiplhjekkooaaProg
import Derived.Test.YthaiplhjekkooaaLib
import Derived.Lib.SliceRun
namespace Go.Proofs.Ythaiplhjekkooaa
open Go.RowKit

/-- The test of two lists of bytes, opaque to the walk. -/
def eqb (xs ys : List Int) : Bool := decide (xs = ys)
theorem eqb_true {xs ys : List Int} : eqb xs ys = true ↔ xs = ys := by simp [eqb]
theorem take_snoc {α : Type} {l : List α} {k : Nat} {x : α} (h : l[k]? = some x) : l.take (k + 1) = l.take k ++ [x] := by
  rw [List.take_add_one, h]; rfl

/-- Is a list of bytes below another one, in order? -/
def ltb : List Int → List Int → Bool
  | _, [] => false
  | [], _ :: _ => true
  | x :: xs, y :: ys => decide (x < y) || (decide (x = y) && ltb xs ys)
theorem ltb_str : ∀ {xs ys : List Int}, Byt xs → Byt ys → Op.bytesLess (strOfNums xs).toList (strOfNums ys).toList = ltb xs ys := by
  intro xs ys hx hy
  rw [ByteArray.toList_eq, ByteArray.toList_eq, strOfNums_data, strOfNums_data]
  induction xs generalizing ys with
  | nil => cases ys <;> rfl
  | cons x xs ih =>
    cases ys with
    | nil => rfl
    | cons y ys =>
      obtain ⟨a, b⟩ := hx x (by simp)
      obtain ⟨c, d⟩ := hy y (by simp)
      have h1 : (UInt8.ofNat x.toNat < UInt8.ofNat y.toNat) = (x < y) := by
        rw [UInt8.lt_iff_toNat_lt, UInt8.toNat_ofNat', UInt8.toNat_ofNat', Nat.mod_eq_of_lt (by omega), Nat.mod_eq_of_lt (by omega)]
        exact propext ⟨fun h => by omega, fun h => by omega⟩
      have h2 : (UInt8.ofNat x.toNat == UInt8.ofNat y.toNat) = decide (x = y) := by
        rw [Bool.eq_iff_iff, beq_iff_eq, decide_eq_true_iff]
        refine ⟨fun h => ?_, fun h => by rw [h]⟩
        have h := congrArg UInt8.toNat h
        rw [UInt8.toNat_ofNat', UInt8.toNat_ofNat', Nat.mod_eq_of_lt (by omega), Nat.mod_eq_of_lt (by omega)] at h
        omega
      simp only [List.map_cons, Op.bytesLess, ltb, h1, h2]
      rw [ih (fun z hz => hx z (by simp [hz])) (fun z hz => hy z (by simp [hz]))]

end Go.Proofs.Ythaiplhjekkooaa
