/- block.Parse: plain facts on what entry reads. -/
import Derived.Test.YtleghbdkjdpilaaBkQ
namespace Go.Proofs.Ytleghbdkjdpilaa
open Go.RowKit

theorem rdNum_go {zs : List Int} (hz : Byt zs) {p e : Nat} (hp : p ≤ zs.length) : p ≤ (rdNum zs p e).2.1 ∧ (rdNum zs p e).2.1 ≤ zs.length ∧ ((rdNum zs p e).2.2 = 0 → e = 0 ∧ p < (rdNum zs p e).2.1) := by
  unfold rdNum
  by_cases he : e ≠ 0
  · rw [if_pos he]
    exact ⟨Nat.le_refl _, hp, fun h => absurd h he⟩
  · rw [if_neg he]
    rcases shortOf_err (zs.drop p) with h | h | h
    · have h1 := shortOf_ok (hz.drop p) (y := (shortOf (zs.drop p)).1) (n := (shortOf (zs.drop p)).2.1) (by rw [← h])
      rw [List.length_drop] at h1
      exact ⟨by simp only; omega, by simp only; omega, fun _ => ⟨Decidable.not_not.1 he, by simp only; omega⟩⟩
    · rw [h]; exact ⟨by simp, by simp; omega, fun h => by cases h⟩
    · rw [h]; exact ⟨by simp, by simp; omega, fun h => by cases h⟩
theorem rdFix_go {zs : List Int} (hz : Byt zs) {p e n : Nat} (hp : p ≤ zs.length) : Byt (rdFix zs p e n).1 ∧ p ≤ (rdFix zs p e n).2.1 ∧ (rdFix zs p e n).2.1 ≤ zs.length ∧ (rdFix zs p e n).1.length ≤ zs.length ∧ ((rdFix zs p e n).2.2 = 0 → e = 0) := by
  unfold rdFix
  by_cases he : e ≠ 0
  · rw [if_pos he]
    exact ⟨fun x hx => by simp at hx, Nat.le_refl _, hp, by simp, fun h => absurd h he⟩
  · rw [if_neg he]
    split
    · exact ⟨fun x hx => by simp at hx, Nat.le_refl _, hp, by simp, fun h => by cases h⟩
    · refine ⟨(hz.drop p).take n, by simp, by simp only; omega, ?_, fun _ => Decidable.not_not.1 he⟩
      simp only [List.length_take, List.length_drop]
      omega
/-- What entry has read goes on. -/
theorem entOf_go {zs key : List Int} (hz : Byt zs) (hk : Byt key) {p : Nat} (hp : p ≤ zs.length) :
    Byt (entOf zs p key).x.key ∧ Byt (entOf zs p key).x.val ∧ (entOf zs p key).x.seq < 18446744073709551616 ∧ (entOf zs p key).p ≤ zs.length ∧ ((entOf zs p key).ok = true → p < (entOf zs p key).p ∧ (entOf zs p key).e = 0) ∧ (entOf zs p key).x.key.length ≤ key.length + zs.length ∧ (entOf zs p key).x.val.length ≤ zs.length := by
  obtain ⟨a, ha⟩ : ∃ a, rdNum zs p 0 = a := ⟨_, rfl⟩
  obtain ⟨b, hb⟩ : ∃ b, rdNum zs a.2.1 a.2.2 = b := ⟨_, rfl⟩
  obtain ⟨c, hc⟩ : ∃ c, rdNum zs b.2.1 b.2.2 = c := ⟨_, rfl⟩
  obtain ⟨d, hd⟩ : ∃ d, rdNum zs c.2.1 c.2.2 = d := ⟨_, rfl⟩
  have hq : eNum zs p = ⟨a.1, b.1, c.1, d.1, d.2.1, d.2.2⟩ := by unfold eNum; simp only [ha, hb, hc, hd]
  have ga := rdNum_go (e := 0) hz hp
  rw [ha] at ga
  have gb := rdNum_go (e := a.2.2) hz ga.2.1
  rw [hb] at gb
  have gc := rdNum_go (e := b.2.2) hz gb.2.1
  rw [hc] at gc
  have gd := rdNum_go (e := c.2.2) hz gc.2.1
  rw [hd] at gd
  have hc64 : c.1 < 18446744073709551616 := by rw [← hc]; exact rdNum_lt hz _ _
  rw [entOf, hq]
  by_cases hbad : entBad zs key ⟨a.1, b.1, c.1, d.1, d.2.1, d.2.2⟩ = true
  · rw [if_pos hbad]
    exact ⟨fun x hx => (by simp at hx), fun x hx => (by simp at hx), by simp, gd.2.1, fun h => (by cases h), by simp, by simp⟩
  · rw [if_neg hbad]
    have he : d.2.2 = 0 := by
      unfold entBad at hbad
      simp only [Bool.or_eq_true, not_or, decide_eq_true_eq] at hbad
      exact Decidable.not_not.1 hbad.1.1.1
    have e3 := gd.2.2 he
    have e2 := gc.2.2 e3.1
    have e1 := gb.2.2 e2.1
    obtain ⟨k, hkk⟩ : ∃ k, rdFix zs d.2.1 0 b.1 = k := ⟨_, rfl⟩
    obtain ⟨v, hvv⟩ : ∃ v, rdFix zs k.2.1 k.2.2 d.1 = v := ⟨_, rfl⟩
    have gk := rdFix_go (e := 0) (n := b.1) hz gd.2.1
    rw [hkk] at gk
    have gv := rdFix_go (e := k.2.2) (n := d.1) hz gk.2.2.1
    rw [hvv] at gv
    have hgo : entGo zs key ⟨a.1, b.1, c.1, d.1, d.2.1, d.2.2⟩ = ⟨decide (v.2.2 = 0), ⟨key.take a.1 ++ k.1, c.1 / 4, ((c.1 % 4 : Nat) : Int), v.1⟩, v.2.1, v.2.2⟩ := by
      unfold entGo
      simp only [hkk, hvv]
    rw [hgo]
    refine ⟨(hk.take _).append gk.1, gv.1, by simp only; omega, gv.2.2.1, fun h => ⟨by simp only; omega, by simpa using h⟩, ?_, gv.2.2.2.1⟩
    simp only [List.length_append, List.length_take]
    have := gk.2.2.2.1
    omega
end Go.Proofs.Ytleghbdkjdpilaa
