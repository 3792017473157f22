/- The plain law of filters: each key of a filter is told to be there, and still is, when other bits are set. -/
import Derived.Test.YtccpjjpceokodaaBLives
namespace Go.Proofs.Ytccpjjpceokodaa
open Go.RowKit

theorem or_bit (a b i : Nat) : (a ||| b) / 2 ^ i % 2 = 1 ↔ (a / 2 ^ i % 2 = 1 ∨ b / 2 ^ i % 2 = 1) := by
  have h := Nat.testBit_or a b i
  rw [Nat.testBit_eq_decide_div_mod_eq, Nat.testBit_eq_decide_div_mod_eq, Nat.testBit_eq_decide_div_mod_eq] at h
  constructor
  · intro h1
    rw [decide_eq_true h1] at h
    have h0 := h.symm
    rw [Bool.or_eq_true] at h0
    rcases h0 with h2 | h2
    · exact .inl (of_decide_eq_true h2)
    · exact .inr (of_decide_eq_true h2)
  · intro h1
    have : (decide (a / 2 ^ i % 2 = 1) || decide (b / 2 ^ i % 2 = 1)) = true := by
      rcases h1 with h1 | h1 <;> simp [h1]
    rw [this] at h
    exact of_decide_eq_true h
theorem isb_iff {zs : List Int} (h : Byt zs) (x : Int) : isb zs x = true ↔ (zs.getD (x / 8).toNat 0).toNat / 2 ^ (x % 8).toNat % 2 = 1 := by
  have hb := h.getD (x / 8).toNat
  obtain ⟨a, ha⟩ := Int.eq_ofNat_of_zero_le hb.1
  rw [isb, pw, ha]
  have e : ((a : Nat) : Int) / 2 ^ (x % 8).toNat % 2 = ((a / 2 ^ (x % 8).toNat % 2 : Nat) : Int) := by
    rw [Int.natCast_emod, Int.natCast_ediv, Int.natCast_pow]
    rfl
  rw [e, Int.toNat_natCast]
  have : a / 2 ^ (x % 8).toNat % 2 < 2 := Nat.mod_lt _ (by decide)
  generalize a / 2 ^ (x % 8).toNat % 2 = q at *
  have hq : q = 0 ∨ q = 1 := by omega
  rcases hq with rfl | rfl <;> simp
theorem getD_set (zs : List Int) (i j : Nat) (v : Int) : (zs.set i v).getD j 0 = if i = j ∧ i < zs.length then v else zs.getD j 0 := by
  rw [List.getD_eq_getElem?_getD, List.getD_eq_getElem?_getD, List.getElem?_set]
  by_cases hij : i = j
  · subst hij
    by_cases hl : i < zs.length
    · simp [hl]
    · simp [hl]
  · simp [hij]
theorem or_toNat (a b : Int) (ha : 0 ≤ a ∧ a ≤ 255) (hb : 0 ≤ b ∧ b ≤ 255) : (bits .or .u8 a b).toNat = a.toNat ||| b.toNat := by
  obtain ⟨a, rfl⟩ := Int.eq_ofNat_of_zero_le ha.1
  obtain ⟨b, rfl⟩ := Int.eq_ofNat_of_zero_le hb.1
  rw [u8_or_nat _ _ (by omega) (by omega)]
  simp
theorem pw_toNat (x : Int) : (pw x).toNat = 2 ^ (x % 8).toNat := by
  rw [pw, show ((2 : Int) ^ (x % 8).toNat) = ((2 ^ (x % 8).toNat : Nat) : Int) from by rw [Int.natCast_pow]; rfl, Int.toNat_natCast]
theorem isb_setb {zs : List Int} (h : Byt zs) (x y : Int) : isb (setb zs y) x = true ↔ isb zs x = true ∨ ((y / 8).toNat = (x / 8).toNat ∧ (y / 8).toNat < zs.length ∧ (2 ^ (y % 8).toNat) / 2 ^ (x % 8).toNat % 2 = 1) := by
  rw [isb_iff h, isb_iff (setb_byt h y), setb, getD_set]
  have hb := h.getD (y / 8).toNat
  have hp := pw_pos y
  split
  · rename_i hc
    rw [or_toNat _ _ hb (by omega), or_bit, pw_toNat, hc.1]
    constructor
    · rintro (h1 | h1)
      · exact .inl h1
      · exact .inr ⟨rfl, by omega, h1⟩
    · rintro (h1 | ⟨_, _, h1⟩)
      · exact .inl h1
      · exact .inr h1
  · rename_i hc
    constructor
    · exact .inl
    · rintro (h1 | ⟨h1, h2, _⟩)
      · exact h1
      · exact absurd ⟨h1, h2⟩ hc
theorem isb_mono {zs : List Int} (h : Byt zs) (x y : Int) (hx : isb zs x = true) : isb (setb zs y) x = true := (isb_setb h x y).2 (.inl hx)
theorem isb_self {zs : List Int} (h : Byt zs) (x : Int) (hl : (x / 8).toNat < zs.length) : isb (setb zs x) x = true :=
  (isb_setb h x x).2 (.inr ⟨rfl, hl, by rw [Nat.div_self (Nat.pow_pos (by decide))]⟩)
theorem isb_fill (ps : List Int) : ∀ {zs : List Int} (_ : Byt zs) (x : Int), isb zs x = true → isb (fill zs ps) x = true := by
  induction ps with
  | nil => intro zs _ x hx; exact hx
  | cons p ps ih => intro zs h x hx; exact ih (setb_byt h p) x (isb_mono h x p hx)
theorem isb_filled (ps : List Int) : ∀ {zs : List Int} (_ : Byt zs) (x : Int), x ∈ ps → (x / 8).toNat < zs.length → isb (fill zs ps) x = true := by
  induction ps with
  | nil => intro zs _ x hx; cases hx
  | cons p ps ih =>
    intro zs h x hx hl
    rcases List.mem_cons.1 hx with rfl | hx
    · exact isb_fill ps (setb_byt h x) x (isb_self h x hl)
    · exact ih (setb_byt h p) x hx (by rw [setb_len]; exact hl)
theorem isb_fillAll (n k : Nat) (keys : List (List Int)) : ∀ {f : List Int} (_ : Byt f) (x : Int), isb f x = true → isb (fillAll n k f keys) x = true := by
  induction keys with
  | nil => intro f _ x hx; exact hx
  | cons y ys ih => intro f h x hx; exact ih (fill_byt _ h) x (isb_fill _ h x hx)
theorem isb_key (n k : Nat) (keys : List (List Int)) : ∀ {f : List Int} (_ : Byt f) (key : List Int) (_ : key ∈ keys) (x : Int), x ∈ prb (hashOf key) n k → (x / 8).toNat < f.length → isb (fillAll n k f keys) x = true := by
  induction keys with
  | nil => intro f _ key hk; cases hk
  | cons y ys ih =>
    intro f h key hk x hx hl
    rcases List.mem_cons.1 hk with rfl | hk
    · exact isb_fillAll n k ys (fill_byt _ h) x (isb_filled _ h x hx hl)
    · exact ih (fill_byt _ h) key hk x hx (by rw [fill_len]; exact hl)
theorem isb_append (zs : List Int) (v x : Int) (hl : (x / 8).toNat < zs.length) : isb (zs ++ [v]) x = isb zs x := by
  rw [isb, isb, List.getD_eq_getElem?_getD, List.getElem?_append_left hl, ← List.getD_eq_getElem?_getD]
theorem prb_mem {h n : Int} (hn : 0 < n) {k : Nat} {x : Int} (hx : x ∈ prb h n k) : 0 ≤ x ∧ x < n := by
  obtain ⟨j, _, rfl⟩ := List.mem_map.1 hx
  exact ⟨Int.emod_nonneg _ (by omega), Int.emod_lt_of_pos _ hn⟩
/-- Bits that lie ahead of the last byte leave the last byte. -/
theorem fill_last (n8 : Nat) (ps : List Int) : ∀ (zs : List Int) (_ : ∀ p ∈ ps, 0 ≤ p ∧ p < (n8 : Int) * 8), (fill zs ps).getD n8 0 = zs.getD n8 0 := by
  induction ps with
  | nil => intro zs _; rfl
  | cons p ps ih =>
    intro zs h
    have hp := h p (List.mem_cons_self ..)
    rw [fill, List.foldl_cons]
    refine (ih (setb zs p) (fun q hq => h q (List.mem_cons_of_mem _ hq))).trans ?_
    rw [setb, getD_set, if_neg (by omega)]
theorem keeps {n8 k : Nat} {keys : List (List Int)} {key : List Int} (hkey : key ∈ keys) (h80 : 8 ≤ n8) (h81 : n8 ≤ 1048576) (hk0 : 1 ≤ k) (hk1 : k ≤ 30) (ps : List Int) (hps : ∀ p ∈ ps, 0 ≤ p ∧ p < (n8 : Int) * 8) :
    hasOf (fill (filterOf n8 k keys) ps) key = true := by
  have hl : (fill (filterOf n8 k keys) ps).length = n8 + 1 := (fill_len _ _).trans (flen ..)
  have hlast : (fill (filterOf n8 k keys) ps).getD n8 0 = k := by
    rw [fill_last n8 ps _ hps, filterOf, List.getD_eq_getElem?_getD, List.getElem?_append_right (by rw [fillAll_len, List.length_replicate]; exact Nat.le_refl _), fillAll_len, List.length_replicate]
    simp
  have hok : okp ((n8 * 8 : Nat) : Int) k = true := by
    simp only [okp, Bool.and_eq_true, decide_eq_true_eq]; omega
  rw [hasOf, if_neg (by omega), hl, Nat.add_sub_cancel, hlast, if_neg (by rw [hok]; simp), Int.toNat_natCast, hasAll, List.all_eq_true]
  intro x hx
  have hx1 := prb_mem (show (0 : Int) < ((n8 * 8 : Nat) : Int) by omega) hx
  refine isb_fill ps (fbyt n8 keys hk1) x ?_
  rw [filterOf, isb_append _ _ _ (by rw [fillAll_len, List.length_replicate]; omega)]
  exact isb_key (n8 * 8) k keys (replicate_byt n8) key hkey x hx (by rw [List.length_replicate]; omega)

theorem bits200 (n : Nat) (c : Int) (hn : n ≤ 200) : ((c < 1 ∨ 64 < c) ∧ bitsOf n c = (0, 0, 2)) ∨ ((1 ≤ c ∧ c ≤ 64) ∧ ∃ n8 k : Nat, 8 ≤ n8 ∧ n8 ≤ 1048576 ∧ 1 ≤ k ∧ k ≤ 30 ∧ bitsOf n c = ((n8 : Int) * 8, (k : Int), 0)) := by
  by_cases hc : c < 1 ∨ 64 < c
  · refine .inl ⟨hc, ?_⟩
    rw [bitsOf, if_pos (by omega)]
  · refine .inr ⟨by omega, ?_⟩
    rcases bits_cases n c (by omega) with ⟨e, h, he⟩ | h
    · exfalso
      have hm : (n : Int) * c ≤ 200 * 64 := Int.mul_le_mul (by omega) (by omega) (by omega) (by omega)
      unfold bitsOf at h
      rw [if_neg (by omega), if_neg (by omega), if_neg (by omega)] at h
      have h1 := congrArg (fun x => x.2.2) h
      simp only at h1
      omega
    · exact h
end Go.Proofs.Ytccpjjpceokodaa
