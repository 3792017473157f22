/- Blocks, plain: Seek finds each entry, in few steps. -/
import Derived.Test.YtleghbdkjdpilaaBkG
import Derived.Test.YtleghbdkjdpilaaEnO
namespace Go.Proofs.Ytleghbdkjdpilaa
open Go.RowKit

theorem enLt_trans {a b c : En} (h1 : enLt a b = true) (h2 : enLt b c = true) : enLt a c = true := by
  simp only [enLt, decide_eq_true_eq] at h1 h2 ⊢
  have h3 := entCmp_le a.key b.key c.key a.seq b.seq c.seq (by omega) (by omega)
  by_cases h4 : entCmp a.key a.seq c.key c.seq = 0
  · rcases entCmp_cases a.key c.key a.seq c.seq with ⟨-, e1, e2⟩ | ⟨h, -⟩ | ⟨h, -⟩ | ⟨h, -⟩ | ⟨h, -⟩
    · rw [← e1, ← e2] at h2
      have := entCmp_neg a.key b.key a.seq b.seq
      omega
    · omega
    · omega
    · omega
    · omega
  · omega
theorem ris_next {l : List En} (h : risB l = true) {i : Nat} {a b : En} (ha : l[i]? = some a) (hb : l[i + 1]? = some b) : enLt a b = true := by
  have hi : i + 1 < l.length := (List.getElem?_eq_some_iff.1 hb).1
  have h1 := List.all_eq_true.1 h i (List.mem_range.2 (by omega))
  unfold risAt at h1
  rw [ha, hb] at h1
  exact h1
theorem ris_lt {l : List En} (h : risB l = true) {i : Nat} {a : En} (ha : l[i]? = some a) : ∀ (d : Nat) (b : En), l[i + d + 1]? = some b → enLt a b = true
  | 0, b, hb => ris_next h ha hb
  | d + 1, b, hb => by
    obtain ⟨c, hc⟩ : ∃ c, l[i + d + 1]? = some c := ⟨_, List.getElem?_eq_getElem (by have := (List.getElem?_eq_some_iff.1 hb).1; omega)⟩
    exact enLt_trans (ris_lt h ha d c hc) (ris_next h hc hb)
theorem sk_lo {l : List En} (h : risB l = true) {i k : Nat} {x : En} (hk : l[k]? = some x) (hi : i < k) : skAt l x.key x.seq i < 0 := by
  obtain ⟨a, ha⟩ : ∃ a, l[i]? = some a := ⟨_, List.getElem?_eq_getElem (by have := (List.getElem?_eq_some_iff.1 hk).1; omega)⟩
  have h1 := ris_lt h ha (k - i - 1) x (by rw [show i + (k - i - 1) + 1 = k from by omega]; exact hk)
  rw [skAt, ha]
  simpa [enLt] using h1
theorem sk_hi {l : List En} (h : risB l = true) {i k : Nat} {x : En} (hk : l[k]? = some x) (hi : k ≤ i) : 0 ≤ skAt l x.key x.seq i := by
  rw [skAt]
  cases ha : l[i]? with
  | none => simp
  | some a =>
    by_cases hik : i = k
    · subst hik
      rw [hk] at ha
      cases ha
      have h1 := entCmp_neg x.key x.key x.seq x.seq
      show 0 ≤ entCmp x.key x.seq x.key x.seq
      omega
    · have h1 := ris_lt h hk (i - k - 1) a (by rw [show k + (i - k - 1) + 1 = i from by omega]; exact ha)
      have h2 := entCmp_neg x.key a.key x.seq a.seq
      simp only [enLt, decide_eq_true_eq] at h1
      show 0 ≤ entCmp a.key a.seq x.key x.seq
      omega
/-- How often a number can be halved, rounded up, until it is one. -/
def hv (r : Nat) : Nat := if 1 < r then hv ((r + 1) / 2) + 1 else 0
termination_by r
decreasing_by omega
theorem hv_one {r : Nat} (h : ¬ 1 < r) : hv r = 0 := by rw [hv, if_neg h]
theorem hv_step {r : Nat} (h : 1 < r) : hv r = hv ((r + 1) / 2) + 1 := by rw [hv, if_pos h]
theorem hv_le : ∀ (n r : Nat), r ≤ n → hv r ≤ r
  | 0, r, h => by rw [hv_one (by omega)]; omega
  | n + 1, r, h => by
    by_cases h1 : 1 < r
    · rw [hv_step h1]
      have := hv_le n ((r + 1) / 2) (by omega)
      omega
    · rw [hv_one h1]; omega
theorem hv_mono : ∀ (n s r : Nat), r ≤ n → s ≤ r → hv s ≤ hv r
  | 0, s, r, h, hs => by rw [show s = r from by omega]; exact Nat.le_refl _
  | n + 1, s, r, h, hs => by
    by_cases h1 : 1 < s
    · rw [hv_step h1, hv_step (r := r) (by omega)]
      have := hv_mono n ((s + 1) / 2) ((r + 1) / 2) (by omega) (by omega)
      omega
    · rw [hv_one h1]; omega
theorem skBin_ok {l : List En} (hr : risB l = true) {k : Nat} {x : En} (hk : l[k]? = some x) : ∀ (f lo hi m : Nat), hi - lo ≤ f → lo ≤ hi → hi * 16 < l.length → (lo = 0 ∨ lo * 16 < k) → k ≤ hi * 16 + 16 →
    ∃ p s, skBin l x.key x.seq f lo hi m = (p, m + s) ∧ s ≤ hv (hi - lo + 1) ∧ (p = 0 ∨ p * 16 < k) ∧ k ≤ p * 16 + 16
  | 0, lo, hi, m, h1, h2, _, h3, h4 => ⟨lo, 0, rfl, Nat.zero_le _, h3, by rw [show lo = hi from by omega]; exact h4⟩
  | f + 1, lo, hi, m, h1, h2, hl, h3, h4 => by
    by_cases hlt : lo < hi
    · obtain ⟨mid, hm⟩ : ∃ mid, (lo + hi + 1) / 2 = mid := ⟨_, rfl⟩
      have hs : hv (hi - lo + 1) = hv ((hi - lo + 1 + 1) / 2) + 1 := hv_step (by omega)
      by_cases hc : skAt l x.key x.seq (mid * 16) < 0
      · have hmk : mid * 16 < k := by
          by_cases h : k ≤ mid * 16
          · have := sk_hi hr hk h
            omega
          · omega
        obtain ⟨p, s, e, hs1, hp1, hp2⟩ := skBin_ok hr hk f mid hi (m + 1) (by omega) (by omega) hl (.inr hmk) h4
        refine ⟨p, s + 1, by rw [skBin, if_pos hlt, hm, if_pos hc, e, Nat.add_assoc, Nat.add_comm 1 s], ?_, hp1, hp2⟩
        have := hv_mono _ (hi - mid + 1) ((hi - lo + 1 + 1) / 2) (Nat.le_refl _) (by omega)
        omega
      · have hmk : k ≤ mid * 16 := by
          by_cases h : mid * 16 < k
          · exact absurd (sk_lo hr hk h) hc
          · omega
        obtain ⟨p, s, e, hs1, hp1, hp2⟩ := skBin_ok hr hk f lo (mid - 1) (m + 1) (by omega) (by omega) (by omega) h3 (by omega)
        refine ⟨p, s + 1, by rw [skBin, if_pos hlt, hm, if_neg hc, e, Nat.add_assoc, Nat.add_comm 1 s], ?_, hp1, hp2⟩
        have := hv_mono _ (mid - 1 - lo + 1) ((hi - lo + 1 + 1) / 2) (Nat.le_refl _) (by omega)
        omega
    · exact ⟨lo, 0, by rw [skBin, if_neg hlt]; rfl, Nat.zero_le _, h3, by rw [show lo = hi from by omega]; exact h4⟩
theorem skScan_ok {l : List En} (hr : risB l = true) {k : Nat} {x : En} (hk : l[k]? = some x) : ∀ (n d m : Nat), d + n = k → skScan x.key x.seq (l.drop d) m = (some x, m + (n + 1))
  | 0, d, m, h => by
    have hd : d = k := by omega
    subst hd
    have h1 := sk_hi hr hk (Nat.le_refl d)
    rw [skAt, hk] at h1
    rw [skScan_step hk, if_pos h1]
  | n + 1, d, m, h => by
    obtain ⟨a, ha⟩ : ∃ a, l[d]? = some a := ⟨_, List.getElem?_eq_getElem (by have := (List.getElem?_eq_some_iff.1 hk).1; omega)⟩
    have h1 := sk_lo hr hk (show d < k by omega)
    rw [skAt, ha] at h1
    rw [skScan_step ha, if_neg (by simp only at h1; omega), skScan_ok hr hk n (d + 1) (m + 1) (by omega)]
    simp only [Prod.mk.injEq, true_and]
    omega
/-- Seek finds each entry, and looks at few. -/
theorem skOf_found {l : List En} (hb : (blkOut l).2 = 0) {k : Nat} {x : En} (hk : l[k]? = some x) :
    ∃ n, skOf (blk l) x.key x.seq = ⟨x, n, 0⟩ ∧ 1 ≤ n ∧ n ≤ 17 + hv ((l.length + 15) / 16) := by
  obtain ⟨hne, he, hr, hl, ho⟩ := blkOut_zero hb
  have hkl : k < l.length := (List.getElem?_eq_some_iff.1 hk).1
  obtain ⟨p, s, e, h1, h2, h3⟩ := skBin_ok hr hk l.length 0 ((l.length - 1) / 16) 0 (by omega) (Nat.zero_le _) (by omega) (.inl rfl) (by omega)
  rw [Nat.sub_zero, show (l.length - 1) / 16 + 1 = (l.length + 15) / 16 from by omega] at h1
  have hp : p * 16 ≤ k := by omega
  have h4 := skScan_ok hr hk (k - p * 16) (p * 16) (0 + s) (by omega)
  refine ⟨0 + s + (k - p * 16 + 1), ?_, by omega, by omega⟩
  rw [skOf, parOf_blk hb]
  simp only [ne_eq, not_true_eq_false, if_false]
  rw [skGo, e, skGo2]
  simp only []
  rw [h4, skEnd]
end Go.Proofs.Ytleghbdkjdpilaa
