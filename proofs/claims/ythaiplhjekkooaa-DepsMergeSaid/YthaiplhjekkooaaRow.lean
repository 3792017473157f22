/- Rows of structs: cells of a fixed number an element, one behind the other. Plain. -/
import Derived.Test.YthaiplhjekkooaaLib
namespace Go.Proofs.Ythaiplhjekkooaa
open Go.RowKit

section
variable {α : Type} {f : α → List Value} {k : Nat}
def flatR (f : α → List Value) (l : List α) : List Value := l.flatMap f
theorem flatR_append (a b : List α) : flatR f (a ++ b) = flatR f a ++ flatR f b := by simp [flatR]
theorem flatR_cons (x : α) (l : List α) : flatR f (x :: l) = f x ++ flatR f l := rfl
theorem flatR_length (hk : ∀ x, (f x).length = k) (l : List α) : (flatR f l).length = l.length * k := by
  induction l with
  | nil => simp [flatR]
  | cons x l ih => rw [flatR_cons, List.length_append, ih, hk, List.length_cons, Nat.add_mul, Nat.one_mul, Nat.add_comm]
theorem flatR_get (hk : ∀ x, (f x).length = k) : ∀ {l : List α} {i : Nat} {x : α}, l[i]? = some x → ∀ j, j < k → (flatR f l)[i * k + j]? = (f x)[j]? := by
  intro l
  induction l with
  | nil => intro i x h; simp at h
  | cons u l ih =>
    intro i x h j hj
    rw [flatR_cons]
    cases i with
    | zero =>
      simp at h
      subst h
      rw [List.getElem?_append_left (by rw [hk]; omega), Nat.zero_mul, Nat.zero_add]
    | succ i =>
      have := ih (i := i) (x := x) (by simpa using h) j hj
      rw [List.getElem?_append_right (by rw [hk, Nat.add_mul]; omega), hk, show (i + 1) * k + j - k = i * k + j from by rw [Nat.add_mul]; omega]
      exact this
theorem flatR_take (hk : ∀ x, (f x).length = k) (l : List α) (n : Nat) : (flatR f l).take (n * k) = flatR f (l.take n) := by
  induction l generalizing n with
  | nil => simp [flatR]
  | cons x l ih =>
    cases n with
    | zero => simp [flatR]
    | succ n => rw [flatR_cons, List.take_succ_cons, flatR_cons, ← ih n, List.take_append, hk, List.take_of_length_le (by rw [hk, Nat.add_mul]; omega), show (n + 1) * k - k = n * k from by rw [Nat.add_mul]; omega]
theorem flatR_drop (hk : ∀ x, (f x).length = k) (l : List α) (n : Nat) : (flatR f l).drop (n * k) = flatR f (l.drop n) := by
  induction l generalizing n with
  | nil => simp [flatR]
  | cons x l ih =>
    cases n with
    | zero => simp [flatR]
    | succ n => rw [flatR_cons, List.drop_succ_cons, ← ih n, List.drop_append, hk, List.drop_eq_nil_of_le (by rw [hk, Nat.add_mul]; omega), show (n + 1) * k - k = n * k from by rw [Nat.add_mul]; omega, List.nil_append]
theorem flatR_one (h1 : ∀ x, ∀ u ∈ f x, u.oneCell' = true) (l : List α) : ∀ u ∈ flatR f l, u.oneCell' = true := by
  intro u hu
  obtain ⟨x, _, hx⟩ := List.mem_flatMap.1 hu
  exact h1 x u hx
/-- An element's cells. -/
theorem flatR_at (hk : ∀ x, (f x).length = k) (h0 : 0 < k) {w : World} {B : Nat} {A : Option Addr} {l : List α} (h : Rd w B A (flatR f l)) {i : Nat} {x : α} (hi : l[i]? = some x) :
    ∃ b o, A = some ⟨b, o, none⟩ ∧ b < B ∧ ∀ j, j < k → w.cell? ⟨b, o + (i * k + j), none⟩ = (f x)[j]? := by
  have hl := (List.getElem?_eq_some_iff.1 hi).1
  have hlen := flatR_length hk l
  have hpos : 0 < (flatR f l).length := by rw [hlen]; exact Nat.mul_pos (by omega) h0
  obtain ⟨b, o, hA, hb, hc⟩ := h (by intro e; rw [e] at hpos; simp at hpos)
  refine ⟨b, o, hA, hb, fun j hj => ?_⟩
  have h1 := flatR_get hk hi j hj
  have h2 : j < (f x).length := by rw [hk]; exact hj
  rw [List.getElem?_eq_getElem h2] at h1 ⊢
  exact hc _ _ h1
end
end Go.Proofs.Ythaiplhjekkooaa
