/- The order of entries: plain laws; how three entries lie in memory. -/
import Derived.Test.YtpjdlcdkldomlaaBatL
import Derived.Test.YtpjdlcdkldomlaaOpen
namespace Go.Proofs.Ytpjdlcdkldomlaa
open Go.ChangeShapes Go.WideShapes Go.ChangeAt Go.RowKit

theorem cmpN_cases : ∀ (a b : List Int), (cmpN a b = 0 ∧ a = b) ∨ (cmpN a b = -1 ∧ ltb a b = true ∧ a ≠ b) ∨ (cmpN a b = 1 ∧ ltb a b = false ∧ a ≠ b)
  | [], [] => .inl ⟨rfl, rfl⟩
  | [], _ :: _ => .inr (.inl ⟨rfl, rfl, by simp⟩)
  | _ :: _, [] => .inr (.inr ⟨rfl, rfl, by simp⟩)
  | x :: la, y :: lb => by
    rw [cmpN, ltb]
    by_cases h1 : x < y
    · exact .inr (.inl ⟨by rw [if_pos h1], by simp [h1], fun e => by injection e; omega⟩)
    · by_cases h2 : y < x
      · exact .inr (.inr ⟨by rw [if_neg h1, if_pos h2], by simp [h1]; omega, fun e => by injection e; omega⟩)
      · have hxy : x = y := by omega
        subst hxy
        rw [if_neg h1, if_neg h1]
        rcases cmpN_cases la lb with ⟨e1, e2⟩ | ⟨e1, e2, e3⟩ | ⟨e1, e2, e3⟩
        · exact .inl ⟨e1, by rw [e2]⟩
        · exact .inr (.inl ⟨e1, by simp [e2], by simpa using e3⟩)
        · exact .inr (.inr ⟨e1, by simp [e2], by simpa using e3⟩)
theorem cmpN_neg : ∀ (a b : List Int), cmpN b a = - cmpN a b
  | [], [] => rfl
  | [], _ :: _ => rfl
  | _ :: _, [] => rfl
  | x :: la, y :: lb => by
    rw [cmpN, cmpN]
    by_cases h1 : x < y
    · simp only [if_pos h1, if_neg (show ¬ y < x by omega)]; rfl
    · by_cases h2 : y < x
      · simp only [if_neg h1, if_pos h2]
      · simp only [if_neg h1, if_neg h2]; exact cmpN_neg la lb
theorem cmpN_trans : ∀ (a b c : List Int), cmpN a b = -1 → cmpN b c = -1 → cmpN a c = -1
  | [], [], _, h, _ => by simp [cmpN] at h
  | _ :: _, [], _, h, _ => by simp [cmpN] at h
  | _, _ :: _, [], _, h => by simp [cmpN] at h
  | [], _ :: _, _ :: _, _, _ => rfl
  | x :: la, y :: lb, z :: lc, h1, h2 => by
    have ih := cmpN_trans la lb lc
    rw [cmpN] at h1 h2 ⊢
    split at h1
    · split at h2
      · rw [if_pos (by omega)]
      · split at h2
        · omega
        · rw [if_pos (by omega)]
    · split at h1
      · omega
      · split at h2
        · rw [if_pos (by omega)]
        · split at h2
          · omega
          · rw [if_neg (by omega), if_neg (by omega)]
            exact ih h1 h2
theorem cmpI_cases (x y : Int) : (cmpI x y = 0 ∧ x = y) ∨ (cmpI x y = -1 ∧ x < y) ∨ (cmpI x y = 1 ∧ y < x) := by
  unfold cmpI
  by_cases h1 : x < y
  · rw [if_pos h1]; omega
  · rw [if_neg h1]
    by_cases h2 : y < x
    · rw [if_pos h2]; omega
    · rw [if_neg h2]; omega
theorem entCmp_cases (a b : List Int) (x y : Nat) : (entCmp a x b y = 0 ∧ a = b ∧ x = y) ∨ (entCmp a x b y = -1 ∧ ltb a b = true ∧ a ≠ b) ∨ (entCmp a x b y = -1 ∧ a = b ∧ y < x) ∨ (entCmp a x b y = 1 ∧ ltb a b = false ∧ a ≠ b) ∨ (entCmp a x b y = 1 ∧ a = b ∧ x < y) := by
  rw [entCmp]
  rcases cmpN_cases a b with ⟨e1, e2⟩ | ⟨e1, e2⟩ | ⟨e1, e2⟩
  · rw [e1, if_neg (by simp)]
    rcases cmpI_cases (y : Int) (x : Int) with ⟨f1, f2⟩ | ⟨f1, f2⟩ | ⟨f1, f2⟩
    · exact .inl ⟨f1, e2, by omega⟩
    · exact .inr (.inr (.inl ⟨f1, e2, by omega⟩))
    · exact .inr (.inr (.inr (.inr ⟨f1, e2, by omega⟩)))
  · rw [e1]; exact .inr (.inl ⟨by simp, e2⟩)
  · rw [e1]; exact .inr (.inr (.inr (.inl ⟨by simp, e2⟩)))
theorem entCmp_neg (a b : List Int) (x y : Nat) : entCmp b y a x = - entCmp a x b y := by
  rw [entCmp, entCmp, cmpN_neg a b]
  by_cases h : cmpN a b = 0
  · rw [h, if_neg (by simp), if_neg (by simp)]
    unfold cmpI
    by_cases h1 : (x : Int) < y
    · simp only [if_pos h1, if_neg (show ¬ (y : Int) < x by omega)]
    · by_cases h2 : (y : Int) < x
      · simp only [if_neg h1, if_pos h2]; rfl
      · simp only [if_neg h1, if_neg h2]; rfl
  · rw [if_pos h, if_pos (by omega)]
theorem entCmp_le (a b c : List Int) (x y z : Nat) (h1 : entCmp a x b y ≤ 0) (h2 : entCmp b y c z ≤ 0) : entCmp a x c z ≤ 0 := by
  have key : ∀ {p q : List Int} {u v : Nat}, entCmp p u q v ≤ 0 → cmpN p q = -1 ∨ (p = q ∧ v ≤ u) := by
    intro p q u v h
    rcases entCmp_cases p q u v with ⟨e, e1, e2⟩ | ⟨e, e1, e2⟩ | ⟨e, e1, e2⟩ | ⟨e, e1, e2⟩ | ⟨e, e1, e2⟩
    · exact .inr ⟨e1, by omega⟩
    · rcases cmpN_cases p q with ⟨f, f1⟩ | ⟨f, f1, _⟩ | ⟨f, f1, _⟩
      · exact absurd f1 e2
      · exact .inl f
      · rw [e1] at f1; cases f1
    · exact .inr ⟨e1, by omega⟩
    · omega
    · omega
  have back : ∀ {p q : List Int} {u v : Nat}, (cmpN p q = -1 ∨ (p = q ∧ v ≤ u)) → entCmp p u q v ≤ 0 := by
    intro p q u v h
    rcases h with h | ⟨h, h'⟩
    · rw [entCmp, h]; simp
    · subst h
      rw [entCmp, cmpN_self, if_neg (by simp)]
      rcases cmpI_cases (v : Int) (u : Int) with ⟨f1, f2⟩ | ⟨f1, f2⟩ | ⟨f1, f2⟩ <;> omega
  apply back
  rcases key h1 with k1 | ⟨k1, k1'⟩
  · rcases key h2 with k2 | ⟨k2, k2'⟩
    · exact .inl (cmpN_trans a b c k1 k2)
    · subst k2; exact .inl k1
  · subst k1
    rcases key h2 with k2 | ⟨k2, k2'⟩
    · exact .inl k2
    · exact .inr ⟨k2, by omega⟩
theorem entCmp_ge (a b c : List Int) (x y z : Nat) (h1 : 0 ≤ entCmp a x b y) (h2 : 0 ≤ entCmp b y c z) : 0 ≤ entCmp a x c z := by
  have h := entCmp_le c b a z y x (by rw [entCmp_neg b c]; omega) (by rw [entCmp_neg a b]; omega)
  rw [entCmp_neg a c] at h
  omega

/-- A field that is a slice of bytes. -/
theorem open_fB {H : Type} {enc : TypeId × Value → H} {W : World} {base : Nat} {held : Bool} {v : Value} {fuel : Nat} {x : DataW H × List MemPlace}
    (h : DataW.trod enc Try.prog W base (fun _ => true) held fuel 22 [v] = some x) : ∃ A n c zs, v = .slice A n c ∧ InB W A n c zs := by
  rcases open_ints Try.underlying22 Try.underlying5 (by kernel_rfl) h with ⟨hcs, _⟩ | ⟨a, l, c, zs, hcs, _, hl, hm, hz, _, hcell, hwz⟩
  · simp at hcs
    subst hcs
    obtain ⟨zs, hi⟩ := open_inB (enc := enc) (d := x.1) (p := x.2) ⟨fuel, h⟩
    exact ⟨_, _, _, zs, rfl, hi⟩
  · simp at hcs
    subst hcs
    obtain ⟨zs, hi⟩ := open_inB (enc := enc) (d := x.1) (p := x.2) ⟨fuel, h⟩
    exact ⟨_, _, _, zs, rfl, hi⟩
/-- An entry that came in. -/
structure InE (w : World) (A1 : Option Addr) (n1 c1 seq : Nat) (kind : Int) (A2 : Option Addr) (n2 c2 : Nat) (key val : List Int) : Prop where
  key : InB w A1 n1 c1 key
  val : InB w A2 n2 c2 val
  seq : seq < 18446744073709551616
theorem open_inE {H : Type} {enc : TypeId × Value → H} {W : World} {base b0 : Nat} {r : Reach} {held : Bool} {v : Value} {d : DataW H} {p : List MemPlace} (hv : Value.okWide Try.prog W r b0 25 v)
    (h : DataW.Trod enc Try.prog W base (fun _ => true) held 25 v d p) : ∃ A1 n1 c1 seq kind A2 n2 c2 key val, v = enV A1 n1 c1 seq kind A2 n2 c2 ∧ InE W A1 n1 c1 seq kind A2 n2 c2 key val := by
  obtain ⟨v0, v1, v2, v3, y0, y1, y2, y3, n, rfl, -, -, h0, h1, h2, h3⟩ := Go.Joins.open_agg4 Try.underlying25 (by kernel_rfl) (by kernel_rfl) hv h
  obtain ⟨A1, n1, c1, key, rfl, k1⟩ := open_fB h0
  obtain ⟨A2, n2, c2, val, rfl, k2⟩ := open_fB h3
  obtain ⟨s, hs, -, hsw⟩ := DataW.trod_int Try.underlying23 h1
  obtain ⟨kd, hk, -, -⟩ := DataW.trod_int (k := .i64) (by kernel_rfl) h2
  simp at hs hk
  subst hs hk
  have hs0 : 0 ≤ s ∧ s < 18446744073709551616 := by
    simp [Lit.wf, IntKind.min, IntKind.max, IntKind.signed, IntKind.bits] at hsw
    omega
  exact ⟨A1, n1, c1, s.toNat, kd, A2, n2, c2, key, val, by rw [enV, Int.toNat_of_nonneg hs0.1], k1, k2, by omega⟩
end Go.Proofs.Ytpjdlcdkldomlaa
