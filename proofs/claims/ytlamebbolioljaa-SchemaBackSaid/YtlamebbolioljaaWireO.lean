/- The plain law of keys in order. -/
import Derived.Test.YtlamebbolioljaaWireM
import Derived.Test.YtlamebbolioljaaKit
namespace Go.Proofs.Ytlamebbolioljaa

theorem txtTo_cons (c : Int) (zs : List Int) : txtTo (c :: zs) = (if c = 0 then [0, 255] else [c]) ++ txtTo zs := rfl
theorem getE_at (pre rest : List Int) (c : Int) : (pre ++ c :: rest)[pre.length]? = some c := by simp
theorem txtR_enc : ∀ (zs pre out rest : List Int), txtR (pre ++ (txtTo zs ++ ([0, 1] ++ rest))) pre.length out = .inl (out ++ zs, pre.length + (txtTo zs).length + 2) := by
  intro zs
  induction zs with
  | nil =>
    intro pre out rest
    have h0 : (pre ++ (txtTo [] ++ ([0, 1] ++ rest)))[pre.length]? = some 0 := by simp [txtTo]
    have h1 : (pre ++ (txtTo [] ++ ([0, 1] ++ rest)))[pre.length + 1]? = some 1 := by
      rw [List.getElem?_append_right (by omega)]
      simp [txtTo]
    rw [txtR_end h0 h1]
    simp [txtTo]
  | cons c zs ih =>
    intro pre out rest
    by_cases hc : c = 0
    · subst hc
      have h0 : (pre ++ (txtTo (0 :: zs) ++ ([0, 1] ++ rest)))[pre.length]? = some 0 := by simp [txtTo_cons]
      have h1 : (pre ++ (txtTo (0 :: zs) ++ ([0, 1] ++ rest)))[pre.length + 1]? = some 255 := by
        rw [List.getElem?_append_right (by omega)]
        simp [txtTo_cons]
      rw [txtR_zero h0 h1]
      have := ih (pre ++ [0, 255]) (out ++ [0]) rest
      simp [txtTo_cons] at this ⊢
      rw [this]
      simp
      omega
    · have h0 : (pre ++ (txtTo (c :: zs) ++ ([0, 1] ++ rest)))[pre.length]? = some c := by simp [txtTo_cons, hc]
      rw [txtR_x h0 hc]
      have := ih (pre ++ [c]) (out ++ [c]) rest
      simp [txtTo_cons, hc] at this ⊢
      rw [this]
      simp
      omega
theorem txtOf_enc (zs rest : List Int) : txtOf (txtEnc zs ++ rest) = .inl (zs, (txtEnc zs).length) := by
  have := txtR_enc zs [] [] rest
  simpa [txtOf, txtEnc] using this

theorem ltb_cons_same (c : Int) (a b : List Int) : ltb (c :: a) (c :: b) = ltb a b := by simp [ltb]
theorem ltb_app (p a b : List Int) : ltb (p ++ a) (p ++ b) = ltb a b := by
  induction p with
  | nil => rfl
  | cons c p ih => rw [List.cons_append, List.cons_append, ltb_cons_same, ih]
theorem ltb_enc : ∀ {a b : List Int} (r r' : List Int), Byt a → Byt b → ltb (txtEnc a ++ r) (txtEnc b ++ r') = if a = b then ltb r r' else ltb a b := by
  intro a
  induction a with
  | nil =>
    intro b r r' _ hb
    cases b with
    | nil => simp [txtEnc, txtTo, ltb]
    | cons c b =>
      have hc := hb c (by simp)
      by_cases h0 : c = 0
      · subst h0
        simp [txtEnc, txtTo_cons, txtTo, ltb]
      · have : (0 : Int) < c := by omega
        simp [txtEnc, txtTo_cons, txtTo, ltb, h0, this]
  | cons x a ih =>
    intro b r r' ha hb
    have hx := ha x (by simp)
    have ha' : Byt a := fun z hz => ha z (by simp [hz])
    cases b with
    | nil =>
      by_cases h0 : x = 0
      · subst h0
        simp [txtEnc, txtTo_cons, txtTo, ltb]
      · have h1 : ¬ x < 0 := by omega
        simp [txtEnc, txtTo_cons, txtTo, ltb, h0, h1]
    | cons y b =>
      have hy := hb y (by simp)
      have hb' : Byt b := fun z hz => hb z (by simp [hz])
      have e1 : txtEnc (x :: a) ++ r = (if x = 0 then [0, 255] else [x]) ++ (txtEnc a ++ r) := by simp [txtEnc, txtTo_cons]
      have e2 : txtEnc (y :: b) ++ r' = (if y = 0 then [0, 255] else [y]) ++ (txtEnc b ++ r') := by simp [txtEnc, txtTo_cons]
      rw [e1, e2]
      by_cases hxy : x = y
      · subst hxy
        rw [ltb_app, ih r r' ha' hb']
        by_cases hab : a = b
        · simp [hab]
        · simp [hab, ltb_cons_same]
      · have hne : ¬ (x :: a = y :: b) := by simp [hxy]
        rw [if_neg hne]
        by_cases hx0 : x = 0
        · subst hx0
          have hy0 : ¬ y = 0 := fun h => hxy h.symm
          have : (0 : Int) < y := by omega
          simp [ltb, hy0, this]
        · by_cases hy0 : y = 0
          · subst hy0
            have h1 : ¬ x < 0 := by omega
            simp [ltb, hx0, h1]
          · simp [ltb, hx0, hy0, hxy]
theorem ltb_ordTo (x y : Nat) : ∀ k, ltb (ordTo x k) (ordTo y k) = decide (x % 256 ^ k < y % 256 ^ k) := by
  intro k
  induction k with
  | zero => simp [ordTo, ltb, Nat.mod_one]
  | succ k ih =>
    have hp : 0 < 256 ^ k := Nat.pow_pos (by omega)
    have e : ∀ z : Nat, z % 256 ^ (k + 1) = (z / 256 ^ k % 256) * 256 ^ k + z % 256 ^ k := fun z => by
      rw [Nat.pow_succ, Nat.mod_mul, Nat.add_comm, Nat.mul_comm]
    have hx := Nat.mod_lt x hp
    have hy := Nat.mod_lt y hp
    rw [e x, e y]
    simp only [ordTo, ltb, ih]
    generalize x / 256 ^ k % 256 = a
    generalize y / 256 ^ k % 256 = b
    generalize x % 256 ^ k = c at *
    generalize y % 256 ^ k = d at *
    generalize 256 ^ k = m at *
    rw [Bool.eq_iff_iff]
    simp only [Bool.or_eq_true, Bool.and_eq_true, decide_eq_true_eq]
    constructor
    · rintro (h | ⟨h1, h2⟩)
      · have : (a + 1) * m ≤ b * m := Nat.mul_le_mul_right m (by omega)
        rw [Nat.add_mul] at this
        omega
      · have : a = b := by omega
        subst this
        omega
    · intro h
      rcases Nat.lt_trichotomy a b with h1 | h1 | h1
      · exact .inl (by omega)
      · subst h1
        exact .inr ⟨rfl, by omega⟩
      · have : (b + 1) * m ≤ a * m := Nat.mul_le_mul_right m (by omega)
        rw [Nat.add_mul] at this
        omega
theorem ltb_ord {x y : Nat} (hx : x < 18446744073709551616) (hy : y < 18446744073709551616) : ltb (ordEnc x) (ordEnc y) = decide (x < y) := by
  have h := ltb_ordTo x y 8
  have e : (256 : Nat) ^ 8 = 18446744073709551616 := by decide
  rw [e, Nat.mod_eq_of_lt hx, Nat.mod_eq_of_lt hy] at h
  exact h
theorem ordVal_enc {x : Nat} (hx : x < 18446744073709551616) : ordVal (ordEnc x) = x := by
  have h := ordTo_val x 8
  have e : (256 : Nat) ^ 8 = 18446744073709551616 := by decide
  rw [e, Nat.mod_eq_of_lt hx] at h
  exact h
/-- A key of a text and a number. -/
def key2 (s : List Int) (x : Nat) : List Int := txtEnc s ++ ordEnc x
theorem key2_lt {s t : List Int} {x y : Nat} (hs : Byt s) (ht : Byt t) (hx : x < 18446744073709551616) (hy : y < 18446744073709551616) : ltb (key2 s x) (key2 t y) = if s = t then decide (x < y) else ltb s t := by
  rw [key2, key2, ltb_enc _ _ hs ht, ltb_ord hx hy]
theorem key2_inj {s t : List Int} {x y : Nat} (hx : x < 18446744073709551616) (hy : y < 18446744073709551616) (h : key2 s x = key2 t y) : s = t ∧ x = y := by
  have h1 := txtOf_enc s (ordEnc x)
  have h2 := txtOf_enc t (ordEnc y)
  rw [key2, key2] at h
  rw [h, h2] at h1
  injection h1 with h1
  injection h1 with h1 _
  subst h1
  have h3 := List.append_cancel_left h
  have := congrArg ordVal h3
  rw [ordVal_enc hx, ordVal_enc hy] at this
  exact ⟨rfl, this⟩
theorem key2_eq {s t : List Int} {x y : Nat} (hx : x < 18446744073709551616) (hy : y < 18446744073709551616) : eqb (key2 s x) (key2 t y) = (decide (s = t) && decide (x = y)) := by
  rw [Bool.eq_iff_iff, eqb_true]
  simp only [Bool.and_eq_true, decide_eq_true_eq]
  constructor
  · exact key2_inj hx hy
  · rintro ⟨rfl, rfl⟩; rfl
theorem txt_prefix {s t : List Int} (h : s ≠ t) : eqb (txtEnc s) ((txtEnc t).take (txtEnc s).length) = false := by
  rw [eqb, decide_eq_false_iff_not]
  intro e
  have h1 : txtEnc t = txtEnc s ++ (txtEnc t).drop (txtEnc s).length := by
    conv => lhs; rw [← List.take_append_drop (txtEnc s).length (txtEnc t), ← e]
  have h2 := txtOf_enc t []
  rw [List.append_nil, h1, txtOf_enc] at h2
  injection h2 with h2
  injection h2 with h2 _
  exact h h2
theorem txtEnc_byt {s : List Int} (h : Byt s) : Byt (txtEnc s) := (txtTo_byt h).append (Byt.of rfl)
theorem txtEnc_len (s : List Int) : (txtEnc s).length ≤ 2 * s.length + 2 := by
  have := txtTo_len s
  simp [txtEnc]
  omega
theorem ltb_tri : ∀ (a b : List Int), a = b ∨ ltb a b = true ∨ ltb b a = true := by
  intro a
  induction a with
  | nil => intro b; cases b <;> simp [ltb]
  | cons x a ih =>
    intro b
    cases b with
    | nil => simp [ltb]
    | cons y b =>
      rcases Int.lt_trichotomy x y with h | h | h
      · right; left; simp [ltb, h]
      · subst h
        rcases ih b with h | h | h
        · left; rw [h]
        · right; left; rw [ltb_cons_same]; exact h
        · right; right; rw [ltb_cons_same]; exact h
      · right; right; simp [ltb, h]
theorem ltb_asymm : ∀ (a b : List Int), ltb a b = true → ltb b a = false := by
  intro a
  induction a with
  | nil => intro b _; cases b <;> rfl
  | cons x a ih =>
    intro b h
    cases b with
    | nil => simp [ltb] at h
    | cons y b =>
      simp only [ltb, Bool.or_eq_true, decide_eq_true_eq, Bool.and_eq_true] at h
      simp only [ltb, Bool.or_eq_false_iff, decide_eq_false_iff_not, Bool.and_eq_false_iff]
      rcases h with h | ⟨h1, h2⟩
      · exact ⟨by omega, .inl (by omega)⟩
      · exact ⟨by omega, .inr (ih b h2)⟩
theorem u64_wf {x : Int} (h : (Lit.int .u64 x).wf = true) : 0 ≤ x ∧ x < 18446744073709551616 := by
  simp [Lit.wf, IntKind.min, IntKind.max, IntKind.signed, IntKind.bits] at h
  omega
end Go.Proofs.Ytlamebbolioljaa
