/- The plain mathematics of layer 1 (wire): no program in sight. -/
import Derived.Test.YtleghbdkjdpilaaLib
namespace Go.Proofs.Ytleghbdkjdpilaa

/-- A short number's bytes. -/
def numEnc (x : Nat) : List Int := if x < 128 then [(x : Int)] else ((x % 128 + 128 : Nat) : Int) :: numEnc (x / 128)
termination_by x
decreasing_by omega
theorem numEnc_lt {x : Nat} (h : x < 128) : numEnc x = [(x : Int)] := by rw [numEnc, if_pos h]
theorem numEnc_ge {x : Nat} (h : 128 ≤ x) : numEnc x = ((x % 128 + 128 : Nat) : Int) :: numEnc (x / 128) := by rw [numEnc, if_neg (by omega)]
theorem numEnc_pos (x : Nat) : 0 < (numEnc x).length := by
  by_cases h : x < 128
  · rw [numEnc_lt h]; simp
  · rw [numEnc_ge (by omega)]; simp
theorem numEnc_len : ∀ (k x : Nat), x < 128 ^ k → 0 < k → (numEnc x).length ≤ k := by
  intro k
  induction k with
  | zero => intro x _ h; omega
  | succ k ih =>
    intro x hx _
    by_cases h : x < 128
    · rw [numEnc_lt h]; simp
    · rw [numEnc_ge (by omega)]
      have h1 : x / 128 < 128 ^ k := by
        rw [Nat.pow_succ] at hx
        omega
      have hk : 0 < k := by
        rcases Nat.eq_zero_or_pos k with rfl | h0
        · simp at hx; omega
        · exact h0
      have := ih (x / 128) h1 hk
      simp only [List.length_cons]
      omega
theorem numEnc_u64 {x : Nat} (h : x < 18446744073709551616) : (numEnc x).length ≤ 10 :=
  numEnc_len 10 x (Nat.lt_of_lt_of_le h (by decide)) (by omega)
theorem numEnc_byt (x : Nat) : Byt (numEnc x) := by
  induction x using numEnc.induct with
  | case1 x h => rw [numEnc_lt h]; intro y hy; simp at hy; omega
  | case2 x h ih =>
    rw [numEnc_ge (by omega)]
    intro y hy
    rcases List.mem_cons.1 hy with rfl | hy
    · omega
    · exact ih y hy

/-- A number's eight bytes, in order. -/
def ordTo (x : Nat) : Nat → List Int
  | 0 => []
  | k + 1 => ((x / 256 ^ k % 256 : Nat) : Int) :: ordTo x k
def ordEnc (x : Nat) : List Int := ordTo x 8
theorem ordTo_len (x k : Nat) : (ordTo x k).length = k := by induction k with | zero => rfl | succ k ih => simp [ordTo, ih]
theorem ordEnc_len (x : Nat) : (ordEnc x).length = 8 := ordTo_len x 8
theorem ordTo_byt (x k : Nat) : Byt (ordTo x k) := by
  induction k with
  | zero => intro y hy; simp [ordTo] at hy
  | succ k ih =>
    intro y hy
    rcases List.mem_cons.1 hy with rfl | hy
    · omega
    · exact ih y hy
theorem ordEnc_byt (x : Nat) : Byt (ordEnc x) := ordTo_byt x 8

/-- A text's bytes in order, without the end. -/
def txtTo (s : List Int) : List Int := s.flatMap fun c => if c = 0 then [0, 255] else [c]
def txtEnc (s : List Int) : List Int := txtTo s ++ [0, 1]
theorem txtTo_snoc0 (s : List Int) : txtTo (s ++ [0]) = txtTo s ++ [0] ++ [255] := by simp [txtTo]
theorem txtTo_snoc (s : List Int) {c : Int} (h : c ≠ 0) : txtTo (s ++ [c]) = txtTo s ++ [c] := by simp [txtTo, h]
theorem txtTo_len (s : List Int) : (txtTo s).length ≤ 2 * s.length := by
  induction s with
  | nil => simp [txtTo]
  | cons c s ih =>
    have : txtTo (c :: s) = (if c = 0 then [0, 255] else [c]) ++ txtTo s := rfl
    rw [this, List.length_append, List.length_cons]
    split <;> simp <;> omega
theorem txtTo_byt {s : List Int} (h : Byt s) : Byt (txtTo s) := by
  intro y hy
  obtain ⟨c, hc, hy⟩ := List.mem_flatMap.1 hy
  have := h c hc
  split at hy
  · simp at hy; omega
  · simp at hy; omega

/-- How many bytes are left of the first n, when the 255s at their end are gone. -/
def cutN (p : List Int) : Nat → Nat
  | 0 => 0
  | n + 1 => if p[n]? = some 255 then cutN p n else n + 1
theorem cutN_le (p : List Int) (n : Nat) : cutN p n ≤ n := by
  induction n with
  | zero => simp [cutN]
  | succ n ih => rw [cutN]; split <;> omega
theorem cutN_last (p : List Int) (n : Nat) (h : 0 < cutN p n) : p[cutN p n - 1]? ≠ some 255 := by
  induction n with
  | zero => simp [cutN] at h
  | succ n ih =>
    by_cases hc : p[n]? = some 255
    · rw [cutN, if_pos hc] at h ⊢; exact ih h
    · rw [cutN, if_neg hc]; simpa using hc
theorem cutN_rest (p : List Int) (n j : Nat) (h : cutN p n ≤ j) (hj : j < n) : p[j]? = some 255 := by
  induction n with
  | zero => omega
  | succ n ih =>
    by_cases hc : p[n]? = some 255
    · rw [cutN, if_pos hc] at h
      by_cases hjn : j = n
      · rw [hjn]; exact hc
      · exact ih h (by omega)
    · rw [cutN, if_neg hc] at h; omega
/-- The least bytes above all that begin with p. -/
def aftOf (p : List Int) : List Int := p.take (cutN p p.length - 1) ++ [(p.getD (cutN p p.length - 1) 0) + 1]
theorem aftOf_len (p : List Int) (h : 0 < cutN p p.length) : (aftOf p).length = cutN p p.length := by
  have := cutN_le p p.length
  simp [aftOf]; omega

/-- The number that stands in some bytes, in order. -/
def ordVal (l : List Int) : Nat := l.foldl (fun a c => a * 256 + c.toNat) 0
theorem ordVal_snoc (l : List Int) (c : Int) : ordVal (l ++ [c]) = ordVal l * 256 + c.toNat := by simp [ordVal]
theorem ordVal_lt : ∀ (k : Nat) (l : List Int), Byt l → l.length = k → ordVal l < 256 ^ k := by
  intro k
  induction k with
  | zero => intro l _ h; obtain rfl := List.eq_nil_of_length_eq_zero h; simp [ordVal]
  | succ k ih =>
    intro l hb h
    obtain ⟨a, c, rfl⟩ : ∃ a c, l = a ++ [c] := by
      have hne : l ≠ [] := by rintro rfl; simp at h
      exact ⟨l.dropLast, l.getLast hne, (List.dropLast_concat_getLast hne).symm⟩
    have h1 := ih a (fun x hx => hb x (by simp [hx])) (by simpa using h)
    have h2 := hb c (by simp)
    rw [ordVal_snoc, Nat.pow_succ]
    omega
theorem ordTo_val (x : Nat) : ∀ (k : Nat), ordVal (ordTo x k) = x % 256 ^ k := by
  have gen : ∀ (k : Nat) (a : Nat), (ordTo x k).foldl (fun a c => a * 256 + c.toNat) a = a * 256 ^ k + x % 256 ^ k := by
    intro k
    induction k with
    | zero => intro a; simp [ordTo, Nat.mod_one]
    | succ k ih =>
      intro a
      have hp : 0 < 256 ^ k := Nat.pow_pos (by omega)
      have e : x % 256 ^ (k + 1) = (x / 256 ^ k % 256) * 256 ^ k + x % 256 ^ k := by
        rw [Nat.pow_succ, Nat.mod_mul, Nat.add_comm, Nat.mul_comm]
      simp only [ordTo, List.foldl_cons]
      rw [ih, Int.toNat_natCast, e, Nat.add_mul, Nat.pow_succ, Nat.mul_assoc, Nat.mul_comm 256 (256 ^ k)]
      omega
  intro k
  have := gen k 0
  simpa [ordVal] using this

/-- What a text in order says from place i on: the text and the place behind it; or the error. 12: more is wanted; 4: no such text. -/
def txtRead (b : List Int) (i : Nat) (out : List Int) : Nat → (List Int × Nat) ⊕ Nat
  | 0 => .inr 12
  | f + 1 => match b[i]? with
    | none => .inr 12
    | some x => if x ≠ 0 then txtRead b (i + 1) (out ++ [x]) f else
      match b[i + 1]? with
      | none => .inr 12
      | some y => if y = 1 then .inl (out, i + 2) else if y = 255 then txtRead b (i + 2) (out ++ [0]) f else .inr 4
theorem txtRead_end (b out : List Int) (i f : Nat) (h : b.length ≤ i) : txtRead b i out f = .inr 12 := by
  cases f with
  | zero => rfl
  | succ f => rw [txtRead, List.getElem?_eq_none h]
theorem txtRead_fuel (b : List Int) : ∀ (f g i : Nat) (out : List Int), b.length ≤ i + f → b.length ≤ i + g → txtRead b i out f = txtRead b i out g := by
  intro f
  induction f with
  | zero => intro g i out h1 h2; rw [txtRead_end b out i 0 (by omega), txtRead_end b out i g (by omega)]
  | succ f ih =>
    intro g i out h1 h2
    cases g with
    | zero => rw [txtRead_end b out i _ (by omega), txtRead_end b out i _ (by omega)]
    | succ g =>
      rw [txtRead, txtRead]
      cases b[i]? with
      | none => rfl
      | some x =>
        simp only
        split
        · exact ih g (i + 1) _ (by omega) (by omega)
        · cases b[i + 1]? with
          | none => rfl
          | some y =>
            simp only
            split
            · rfl
            · split
              · exact ih g (i + 2) _ (by omega) (by omega)
              · rfl
/-- From place k on. -/
def txtR (b : List Int) (k : Nat) (out : List Int) : (List Int × Nat) ⊕ Nat := txtRead b k out (b.length - k)
theorem txtR_over {b out : List Int} {k : Nat} (h : b.length ≤ k) : txtR b k out = .inr 12 := txtRead_end b out k _ h
theorem lt_of_get {b : List Int} {k : Nat} {x : Int} (h : b[k]? = some x) : k < b.length := (List.getElem?_eq_some_iff.1 h).1
theorem txtR_x {b out : List Int} {k : Nat} {x : Int} (h : b[k]? = some x) (hx : x ≠ 0) : txtR b k out = txtR b (k + 1) (out ++ [x]) := by
  have := lt_of_get h
  rw [txtR, txtR, show b.length - k = (b.length - (k + 1)) + 1 from by omega, txtRead, h]
  simp [hx]
theorem txtR_more {b out : List Int} {k : Nat} (h : b[k]? = some 0) (h1 : k + 1 = b.length) : txtR b k out = .inr 12 := by
  rw [txtR, show b.length - k = 0 + 1 from by omega, txtRead, h, List.getElem?_eq_none (show b.length ≤ k + 1 from by omega)]
  simp
theorem txtR_end {b out : List Int} {k : Nat} (h : b[k]? = some 0) (h1 : b[k + 1]? = some 1) : txtR b k out = .inl (out, k + 2) := by
  have := lt_of_get h
  rw [txtR, show b.length - k = (b.length - (k + 1)) + 1 from by omega, txtRead, h, h1]
  simp
theorem txtR_zero {b out : List Int} {k : Nat} (h : b[k]? = some 0) (h1 : b[k + 1]? = some 255) : txtR b k out = txtR b (k + 2) (out ++ [0]) := by
  have := lt_of_get h
  rw [txtR, txtR, show b.length - k = (b.length - (k + 1)) + 1 from by omega, txtRead, h, h1]
  simp
  exact txtRead_fuel b _ _ _ _ (by omega) (by omega)
theorem txtR_bad {b out : List Int} {k : Nat} {y : Int} (h : b[k]? = some 0) (h1 : b[k + 1]? = some y) (hy1 : y ≠ 1) (hy2 : y ≠ 255) : txtR b k out = .inr 4 := by
  have := lt_of_get h
  rw [txtR, show b.length - k = (b.length - (k + 1)) + 1 from by omega, txtRead, h, h1]
  simp [hy1, hy2]
/-- The whole. -/
def txtOf (b : List Int) : (List Int × Nat) ⊕ Nat := txtR b 0 []
end Go.Proofs.Ytleghbdkjdpilaa
