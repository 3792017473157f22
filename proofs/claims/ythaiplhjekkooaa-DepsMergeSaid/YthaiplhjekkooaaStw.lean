/- Numbers and strings stand in one of three ways. -/
import Derived.Test.YthaiplhjekkooaaSpM0
namespace Go.Proofs.Ythaiplhjekkooaa
open Go.RowKit

def cmpI (x y : Int) : Int := if x < y then -1 else if y < x then 1 else 0
theorem strEq_of' {s t : ByteArray} : (s.toList == t.toList) = decide (s = t) := by
  rw [ByteArray.toList_eq, ByteArray.toList_eq, Bool.eq_iff_iff, beq_iff_eq, decide_eq_true_iff]
  exact ⟨fun h => ByteArray.ext (Array.ext' h), fun h => by rw [h]⟩
def cmpS (s t : ByteArray) : Int := if strLt s t = true then -1 else if s = t then 0 else 1
theorem stw_ltb (s t : ByteArray) : strLt s t = ltb (nums s) (nums t) := by
  have := ltb_str (nums_byt s) (nums_byt t)
  rw [strOf_nums, strOf_nums] at this
  exact this
theorem stw_irr : ∀ (a : List Int), ltb a a = false
  | [] => rfl
  | x :: a => by rw [ltb, stw_irr a]; simp
theorem stw_tr : ∀ (a b c : List Int), ltb a b = true → ltb b c = true → ltb a c = true
  | a, [], _, h, _ => by simp [ltb] at h
  | _, y :: b, [], _, h => by simp [ltb] at h
  | [], _ :: _, _ :: _, _, _ => rfl
  | x :: a, y :: b, z :: c, h1, h2 => by
    simp only [ltb, Bool.or_eq_true, Bool.and_eq_true, decide_eq_true_eq] at h1 h2 ⊢
    rcases h1 with h1 | ⟨h1, h1'⟩
    · rcases h2 with h2 | ⟨h2, _⟩ <;> exact .inl (by omega)
    · rcases h2 with h2 | ⟨h2, h2'⟩
      · exact .inl (by omega)
      · exact .inr ⟨by omega, stw_tr a b c h1' h2'⟩
theorem stw_tri : ∀ (a b : List Int), ltb a b = false → ltb b a = false → a = b
  | [], [], _, _ => rfl
  | [], _ :: _, h, _ => by cases h
  | _ :: _, [], _, h => by cases h
  | x :: a, y :: b, h1, h2 => by
    simp only [ltb, Bool.or_eq_false_iff, Bool.and_eq_false_iff, decide_eq_false_iff_not] at h1 h2
    have hxy : x = y := by omega
    subst hxy
    rw [stw_tri a b (by rcases h1.2 with h | h; · exact absurd rfl h
                        · exact h) (by rcases h2.2 with h | h; · exact absurd rfl h
                                       · exact h)]
theorem strLt_ways (s t : ByteArray) : (strLt s t = true ∧ cmpS s t = -1) ∨ (strLt s t = false ∧ strLt t s = true ∧ cmpS s t = 1) ∨ (strLt s t = false ∧ strLt t s = false ∧ cmpS s t = 0) := by
  cases h1 : strLt s t with
  | true => exact .inl ⟨rfl, by rw [cmpS, if_pos h1]⟩
  | false =>
    cases h2 : strLt t s with
    | true =>
      refine .inr (.inl ⟨rfl, rfl, ?_⟩)
      have hne : s ≠ t := fun e => by subst e; rw [h1] at h2; cases h2
      rw [cmpS, h1, if_neg hne]
      simp
    | false =>
      refine .inr (.inr ⟨rfl, rfl, ?_⟩)
      rw [stw_ltb] at h1 h2
      have := nums_inj (stw_tri _ _ h1 h2)
      subst this
      rw [cmpS, stw_ltb, h1]
      simp
end Go.Proofs.Ythaiplhjekkooaa
