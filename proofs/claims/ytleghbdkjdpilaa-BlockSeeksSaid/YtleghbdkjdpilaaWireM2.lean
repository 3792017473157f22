/- The plain mathematics of reading a short number. -/
import Derived.Test.YtleghbdkjdpilaaWireM
namespace Go.Proofs.Ytleghbdkjdpilaa

/-- A short number from place k on, x gathered till there: the number, the place behind it, the error (0: none, 4: bad, 12: more is wanted). -/
def shortG (zs : List Int) (k x : Nat) : Nat → Nat × Nat × Nat
  | 0 => (0, 0, 12)
  | f + 1 => match zs[k]? with
    | none => (0, 0, 12)
    | some c => if k = 9 ∧ 1 < c then (0, 0, 4) else if c = 0 ∧ 0 < k then (0, 0, 4) else if c < 128 then (x + c.toNat * 128 ^ k, k + 1, 0) else shortG zs (k + 1) (x + (c.toNat - 128) * 128 ^ k) f
def shortOf (zs : List Int) : Nat × Nat × Nat := shortG zs 0 0 10

theorem shortG_step {zs : List Int} {k x f : Nat} {c : Int} (h : zs[k]? = some c) : shortG zs k x (f + 1) =
    if k = 9 ∧ 1 < c then (0, 0, 4) else if c = 0 ∧ 0 < k then (0, 0, 4) else if c < 128 then (x + c.toNat * 128 ^ k, k + 1, 0) else shortG zs (k + 1) (x + (c.toNat - 128) * 128 ^ k) f := by
  rw [shortG, h]
theorem shortG_none {zs : List Int} {k x f : Nat} (h : zs.length ≤ k) : shortG zs k x f = (0, 0, 12) := by
  cases f with
  | zero => rfl
  | succ f => rw [shortG, List.getElem?_eq_none h]

/-- What is told is told of bytes that are there; the number fits. -/
theorem shortG_ok {zs : List Int} (hz : Byt zs) : ∀ (f k x : Nat), k + f = 10 → x < 128 ^ k → ∀ y n, shortG zs k x f = (y, n, 0) → n ≤ zs.length ∧ k < n ∧ y < 18446744073709551616 := by
  intro f
  induction f with
  | zero => intro k x _ _ y n h; simp [shortG] at h
  | succ f ih =>
    intro k x hk hx y n h
    cases hc : zs[k]? with
    | none => rw [shortG, hc] at h; simp at h
    | some c =>
      have hlt := lt_of_get hc
      have hb := hz.get hc
      rw [shortG_step hc] at h
      by_cases h1 : k = 9 ∧ 1 < c
      · rw [if_pos h1] at h; simp at h
      · rw [if_neg h1] at h
        by_cases h2 : c = 0 ∧ 0 < k
        · rw [if_pos h2] at h; simp at h
        · rw [if_neg h2] at h
          by_cases h3 : c < 128
          · rw [if_pos h3] at h
            simp only [Prod.mk.injEq, and_true] at h
            obtain ⟨rfl, rfl⟩ := h
            refine ⟨by omega, by omega, ?_⟩
            by_cases hk9 : k = 9
            · subst hk9
              have hc1 : c.toNat ≤ 1 := by omega
              have : (128 : Nat) ^ 9 = 9223372036854775808 := by decide
              rw [this] at hx ⊢
              omega
            · have hp : 128 ^ (k + 1) ≤ 128 ^ 9 := Nat.pow_le_pow_right (by omega) (by omega)
              have h9 : (128 : Nat) ^ 9 = 9223372036854775808 := by decide
              rw [h9, Nat.pow_succ] at hp
              have hm : c.toNat * 128 ^ k ≤ 127 * 128 ^ k := Nat.mul_le_mul_right _ (by omega)
              omega
          · rw [if_neg h3] at h
            have hx' : x + (c.toNat - 128) * 128 ^ k < 128 ^ (k + 1) := by
              rw [Nat.pow_succ]
              have hm : (c.toNat - 128) * 128 ^ k ≤ 127 * 128 ^ k := Nat.mul_le_mul_right _ (by omega)
              omega
            obtain ⟨a, b, d⟩ := ih (k + 1) _ (by omega) hx' y n h
            exact ⟨a, by omega, d⟩
theorem shortOf_ok {zs : List Int} (hz : Byt zs) {y n : Nat} (h : shortOf zs = (y, n, 0)) : n ≤ zs.length ∧ 0 < n ∧ y < 18446744073709551616 :=
  shortG_ok hz 10 0 0 rfl (by omega) y n h

/-- The errors. -/
theorem shortG_err : ∀ (f : Nat) {zs : List Int} (k x : Nat), (shortG zs k x f).2.2 = 0 ∨ shortG zs k x f = (0, 0, 4) ∨ shortG zs k x f = (0, 0, 12) := by
  intro f
  induction f with
  | zero => intro zs k x; simp [shortG]
  | succ f ih =>
    intro zs k x
    cases hc : zs[k]? with
    | none => rw [shortG, hc]; simp
    | some c =>
      rw [shortG_step hc]
      split
      · simp
      · split
        · simp
        · split
          · simp
          · exact ih _ _
theorem shortOf_err (zs : List Int) : (shortOf zs).2.2 = 0 ∨ shortOf zs = (0, 0, 4) ∨ shortOf zs = (0, 0, 12) := shortG_err 10 0 0

/-- What is put together is read again, whatever stands behind it. -/
theorem shortG_num : ∀ (f k x y : Nat) (pre rest : List Int), k + f = 10 → pre.length = k → y * 128 ^ k < 18446744073709551616 → (0 < k → 0 < y) →
    shortG (pre ++ numEnc y ++ rest) k x f = (x + y * 128 ^ k, k + (numEnc y).length, 0) := by
  intro f
  induction f with
  | zero =>
    intro k x y pre rest hk hp hy hy0
    obtain rfl : k = 10 := by omega
    have := hy0 (by omega)
    have h10 : (128 : Nat) ^ 10 = 1180591620717411303424 := by decide
    rw [h10] at hy
    omega
  | succ f ih =>
    intro k x y pre rest hk hp hy hy0
    by_cases hlt : y < 128
    · have hget : (pre ++ numEnc y ++ rest)[k]? = some (y : Int) := by
        rw [numEnc_lt hlt, List.append_assoc, List.getElem?_append_right (by omega)]
        simp [hp]
      rw [shortG_step hget]
      rw [if_neg, if_neg, if_pos (by omega), numEnc_lt hlt]
      · simp
      · rintro ⟨h0, h1⟩
        have := hy0 h1
        omega
      · rintro ⟨rfl, h1⟩
        have h9 : (128 : Nat) ^ 9 = 9223372036854775808 := by decide
        rw [h9] at hy
        omega
    · have hget : (pre ++ numEnc y ++ rest)[k]? = some ((y % 128 + 128 : Nat) : Int) := by
        rw [numEnc_ge (by omega), List.append_assoc, List.getElem?_append_right (by omega)]
        simp [hp]
      have hk9 : k ≠ 9 := by
        rintro rfl
        have h9 : (128 : Nat) ^ 9 = 9223372036854775808 := by decide
        rw [h9] at hy
        omega
      rw [shortG_step hget, if_neg (by rintro ⟨h, _⟩; exact hk9 h), if_neg (by rintro ⟨h, _⟩; omega), if_neg (by omega)]
      have e : pre ++ numEnc y ++ rest = (pre ++ [((y % 128 + 128 : Nat) : Int)]) ++ numEnc (y / 128) ++ rest := by
        rw [numEnc_ge (x := y) (by omega)]; simp
      have hdm : y = 128 * (y / 128) + y % 128 := by omega
      have hmul : y * 128 ^ k = (y / 128) * 128 ^ (k + 1) + (y % 128) * 128 ^ k := by
        rw [Nat.pow_succ]
        conv => lhs; rw [hdm]
        rw [Nat.add_mul, Nat.mul_comm 128 (y / 128), Nat.mul_assoc, Nat.mul_comm 128 (128 ^ k)]
      rw [e, ih (k + 1) _ (y / 128) _ rest (by omega) (by simp [hp]) (by omega) (by omega)]
      have e2 : (((y % 128 + 128 : Nat) : Int).toNat - 128) = y % 128 := by omega
      rw [e2, numEnc_ge (x := y) (by omega)]
      simp only [List.length_cons, Prod.mk.injEq, and_true]
      omega
theorem shortOf_num (y : Nat) (rest : List Int) (hy : y < 18446744073709551616) : shortOf (numEnc y ++ rest) = (y, (numEnc y).length, 0) := by
  have := shortG_num 10 0 0 y [] rest rfl rfl (by simpa using hy) (by omega)
  simpa [shortOf] using this

/-- And what is read was so put together. -/
theorem shortG_back {zs : List Int} (hz : Byt zs) : ∀ (f k x y n : Nat), k + f = 10 → shortG zs k x f = (y, n, 0) → ∃ v, y = x + v * 128 ^ k ∧ (0 < k → 0 < v) ∧ n = k + (numEnc v).length ∧ (zs.drop k).take (n - k) = numEnc v := by
  intro f
  induction f with
  | zero => intro k x y n _ h; simp [shortG] at h
  | succ f ih =>
    intro k x y n hk h
    cases hc : zs[k]? with
    | none => rw [shortG, hc] at h; simp at h
    | some c =>
      have hlt := lt_of_get hc
      have hb := hz.get hc
      have hdrop : zs.drop k = c :: zs.drop (k + 1) := by
        rw [List.drop_eq_getElem_cons hlt]
        rw [List.getElem?_eq_getElem hlt] at hc
        injection hc with hc
        rw [hc]
      rw [shortG_step hc] at h
      by_cases h1 : k = 9 ∧ 1 < c
      · rw [if_pos h1] at h; simp at h
      · rw [if_neg h1] at h
        by_cases h2 : c = 0 ∧ 0 < k
        · rw [if_pos h2] at h; simp at h
        · rw [if_neg h2] at h
          by_cases h3 : c < 128
          · rw [if_pos h3] at h
            simp only [Prod.mk.injEq, and_true] at h
            obtain ⟨rfl, rfl⟩ := h
            have hcl : c.toNat < 128 := by omega
            refine ⟨c.toNat, rfl, by omega, by rw [numEnc_lt hcl]; rfl, ?_⟩
            rw [numEnc_lt hcl, show k + 1 - k = 1 from by omega, hdrop]
            simp
            omega
          · rw [if_neg h3] at h
            obtain ⟨v, hy, hv, hn, ht⟩ := ih (k + 1) _ y n (by omega) h
            have hv0 := hv (by omega)
            have hge : 128 ≤ (c.toNat - 128) + 128 * v := by omega
            refine ⟨(c.toNat - 128) + 128 * v, ?_, by omega, ?_, ?_⟩
            · rw [hy, Nat.pow_succ, Nat.add_mul, Nat.mul_comm 128 v, Nat.mul_assoc, Nat.mul_comm 128 (128 ^ k), Nat.add_assoc]
            · rw [numEnc_ge hge, show (c.toNat - 128 + 128 * v) / 128 = v from by omega, List.length_cons]
              omega
            · rw [numEnc_ge hge, show (c.toNat - 128 + 128 * v) / 128 = v from by omega, hdrop, show n - k = (n - (k + 1)) + 1 from by omega, List.take_succ_cons, ht]
              congr 1
              omega
theorem shortOf_back {zs : List Int} (hz : Byt zs) {y n : Nat} (h : shortOf zs = (y, n, 0)) : zs.take n = numEnc y ∧ n = (numEnc y).length := by
  obtain ⟨v, hy, _, hn, ht⟩ := shortG_back hz 10 0 0 y n rfl h
  obtain rfl : y = v := by omega
  exact ⟨by simpa using ht, by omega⟩
end Go.Proofs.Ytleghbdkjdpilaa
