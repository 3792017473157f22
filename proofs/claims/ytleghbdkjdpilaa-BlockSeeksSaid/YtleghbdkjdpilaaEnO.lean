/- The order of entries: plain. (Lines of BatO.) -/
import Derived.Test.YtleghbdkjdpilaaEnC
namespace Go.Proofs.Ytleghbdkjdpilaa
open Go.RowKit

theorem cmpN_self : ∀ (a : List Int), cmpN a a = 0
  | [] => rfl
  | x :: a => by rw [cmpN, if_neg (by omega), if_neg (by omega)]; exact cmpN_self a
theorem cmpN_cases : ∀ (a b : List Int), (cmpN a b = 0 ∧ a = b) ∨ (cmpN a b = -1 ∧ ltb a b = true ∧ a ≠ b) ∨ (cmpN a b = 1 ∧ ltb a b = false ∧ a ≠ b)
  | [], [] => .inl ⟨rfl, rfl⟩
  | [], _ :: _ => .inr (.inl ⟨rfl, rfl, by simp⟩)
  | _ :: _, [] => .inr (.inr ⟨rfl, rfl, by simp⟩)
  | x :: la, y :: lb => by
    rw [cmpN, ltb]
    by_cases h1 : x < y
    · exact .inr (.inl ⟨by rw [if_pos h1], by simp [h1], fun e => by injection e; omega⟩)
    · by_cases h2 : y < x
      · exact .inr (.inr ⟨by rw [if_neg h1, if_pos h2], by simp [h1]; omega, fun e => by injection e; omega⟩)
      · have hxy : x = y := by omega
        subst hxy
        rw [if_neg h1, if_neg h1]
        rcases cmpN_cases la lb with ⟨e1, e2⟩ | ⟨e1, e2, e3⟩ | ⟨e1, e2, e3⟩
        · exact .inl ⟨e1, by rw [e2]⟩
        · exact .inr (.inl ⟨e1, by simp [e2], by simpa using e3⟩)
        · exact .inr (.inr ⟨e1, by simp [e2], by simpa using e3⟩)
theorem cmpN_neg : ∀ (a b : List Int), cmpN b a = - cmpN a b
  | [], [] => rfl
  | [], _ :: _ => rfl
  | _ :: _, [] => rfl
  | x :: la, y :: lb => by
    rw [cmpN, cmpN]
    by_cases h1 : x < y
    · simp only [if_pos h1, if_neg (show ¬ y < x by omega)]; rfl
    · by_cases h2 : y < x
      · simp only [if_neg h1, if_pos h2]
      · simp only [if_neg h1, if_neg h2]; exact cmpN_neg la lb
theorem cmpN_trans : ∀ (a b c : List Int), cmpN a b = -1 → cmpN b c = -1 → cmpN a c = -1
  | [], [], _, h, _ => by simp [cmpN] at h
  | _ :: _, [], _, h, _ => by simp [cmpN] at h
  | _, _ :: _, [], _, h => by simp [cmpN] at h
  | [], _ :: _, _ :: _, _, _ => rfl
  | x :: la, y :: lb, z :: lc, h1, h2 => by
    have ih := cmpN_trans la lb lc
    rw [cmpN] at h1 h2 ⊢
    split at h1
    · split at h2
      · rw [if_pos (by omega)]
      · split at h2
        · omega
        · rw [if_pos (by omega)]
    · split at h1
      · omega
      · split at h2
        · rw [if_pos (by omega)]
        · split at h2
          · omega
          · rw [if_neg (by omega), if_neg (by omega)]
            exact ih h1 h2
theorem cmpI_cases (x y : Int) : (cmpI x y = 0 ∧ x = y) ∨ (cmpI x y = -1 ∧ x < y) ∨ (cmpI x y = 1 ∧ y < x) := by
  unfold cmpI
  by_cases h1 : x < y
  · rw [if_pos h1]; omega
  · rw [if_neg h1]
    by_cases h2 : y < x
    · rw [if_pos h2]; omega
    · rw [if_neg h2]; omega
theorem entCmp_cases (a b : List Int) (x y : Nat) : (entCmp a x b y = 0 ∧ a = b ∧ x = y) ∨ (entCmp a x b y = -1 ∧ ltb a b = true ∧ a ≠ b) ∨ (entCmp a x b y = -1 ∧ a = b ∧ y < x) ∨ (entCmp a x b y = 1 ∧ ltb a b = false ∧ a ≠ b) ∨ (entCmp a x b y = 1 ∧ a = b ∧ x < y) := by
  rw [entCmp]
  rcases cmpN_cases a b with ⟨e1, e2⟩ | ⟨e1, e2⟩ | ⟨e1, e2⟩
  · rw [e1, if_neg (by simp)]
    rcases cmpI_cases (y : Int) (x : Int) with ⟨f1, f2⟩ | ⟨f1, f2⟩ | ⟨f1, f2⟩
    · exact .inl ⟨f1, e2, by omega⟩
    · exact .inr (.inr (.inl ⟨f1, e2, by omega⟩))
    · exact .inr (.inr (.inr (.inr ⟨f1, e2, by omega⟩)))
  · rw [e1]; exact .inr (.inl ⟨by simp, e2⟩)
  · rw [e1]; exact .inr (.inr (.inr (.inl ⟨by simp, e2⟩)))
theorem entCmp_neg (a b : List Int) (x y : Nat) : entCmp b y a x = - entCmp a x b y := by
  rw [entCmp, entCmp, cmpN_neg a b]
  by_cases h : cmpN a b = 0
  · rw [h, if_neg (by simp), if_neg (by simp)]
    unfold cmpI
    by_cases h1 : (x : Int) < y
    · simp only [if_pos h1, if_neg (show ¬ (y : Int) < x by omega)]
    · by_cases h2 : (y : Int) < x
      · simp only [if_neg h1, if_pos h2]; rfl
      · simp only [if_neg h1, if_neg h2]; rfl
  · rw [if_pos h, if_pos (by omega)]
theorem entCmp_le (a b c : List Int) (x y z : Nat) (h1 : entCmp a x b y ≤ 0) (h2 : entCmp b y c z ≤ 0) : entCmp a x c z ≤ 0 := by
  have key : ∀ {p q : List Int} {u v : Nat}, entCmp p u q v ≤ 0 → cmpN p q = -1 ∨ (p = q ∧ v ≤ u) := by
    intro p q u v h
    rcases entCmp_cases p q u v with ⟨e, e1, e2⟩ | ⟨e, e1, e2⟩ | ⟨e, e1, e2⟩ | ⟨e, e1, e2⟩ | ⟨e, e1, e2⟩
    · exact .inr ⟨e1, by omega⟩
    · rcases cmpN_cases p q with ⟨f, f1⟩ | ⟨f, f1, _⟩ | ⟨f, f1, _⟩
      · exact absurd f1 e2
      · exact .inl f
      · rw [e1] at f1; cases f1
    · exact .inr ⟨e1, by omega⟩
    · omega
    · omega
  have back : ∀ {p q : List Int} {u v : Nat}, (cmpN p q = -1 ∨ (p = q ∧ v ≤ u)) → entCmp p u q v ≤ 0 := by
    intro p q u v h
    rcases h with h | ⟨h, h'⟩
    · rw [entCmp, h]; simp
    · subst h
      rw [entCmp, cmpN_self, if_neg (by simp)]
      rcases cmpI_cases (v : Int) (u : Int) with ⟨f1, f2⟩ | ⟨f1, f2⟩ | ⟨f1, f2⟩ <;> omega
  apply back
  rcases key h1 with k1 | ⟨k1, k1'⟩
  · rcases key h2 with k2 | ⟨k2, k2'⟩
    · exact .inl (cmpN_trans a b c k1 k2)
    · subst k2; exact .inl k1
  · subst k1
    rcases key h2 with k2 | ⟨k2, k2'⟩
    · exact .inl k2
    · exact .inr ⟨k2, by omega⟩
theorem entCmp_ge (a b c : List Int) (x y z : Nat) (h1 : 0 ≤ entCmp a x b y) (h2 : 0 ≤ entCmp b y c z) : 0 ≤ entCmp a x c z := by
  have h := entCmp_le c b a z y x (by rw [entCmp_neg b c]; omega) (by rw [entCmp_neg a b]; omega)
  rw [entCmp_neg a c] at h
  omega
end Go.Proofs.Ytleghbdkjdpilaa
