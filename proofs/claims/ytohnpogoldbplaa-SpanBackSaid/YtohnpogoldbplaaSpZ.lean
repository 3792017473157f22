/- Spans: the plain law, back, whole. -/
import Derived.Test.YtohnpogoldbplaaSpY
namespace Go.Proofs.Ytohnpogoldbplaa
open Go.RowKit

theorem rEight_stick {zs : List Int} {s s' : RS} {x : Nat} (h : rEight zs s = (x, s')) (hs : s'.stop = false) : s.stop = false := by
  cases hst : s.stop with
  | false => rfl
  | true => rw [rEight, if_pos hst] at h; obtain ⟨-, rfl⟩ := Prod.mk.inj h; rw [hst] at hs; cases hs
theorem rText_stick {zs : List Int} {s s' : RS} {x : ByteArray} (h : rText zs s = (x, s')) (hs : s'.stop = false) : s.stop = false := by
  cases hst : s.stop with
  | false => rfl
  | true => rw [rText, if_pos hst] at h; obtain ⟨-, rfl⟩ := Prod.mk.inj h; rw [hst] at hs; cases hs
theorem rOne_stick {zs : List Int} {s s' : RS} {x most : Int} (h : rOne most zs s = (x, s')) (hs : s'.stop = false) : s.stop = false := by
  cases hst : s.stop with
  | false => rfl
  | true => rw [rOne, if_pos hst] at h; obtain ⟨-, rfl⟩ := Prod.mk.inj h; rw [hst] at hs; cases hs
theorem rShort_stick {zs : List Int} {s s' : RS} {x most : Nat} (h : rShort most zs s = (x, s')) (hs : s'.stop = false) : s.stop = false := by
  cases hst : s.stop with
  | false => rfl
  | true => rw [rShort, if_pos hst] at h; obtain ⟨-, rfl⟩ := Prod.mk.inj h; rw [hst] at hs; cases hs
theorem prTags_stick {zs : List Int} : ∀ (n : Nat) (acc l : List Tg) (s s' : RS), prTags zs n acc s = (l, s') → s'.stop = false → s.stop = false := by
  intro n
  induction n with
  | zero => intro acc l s s' h hs; rw [prTags] at h; obtain ⟨-, rfl⟩ := Prod.mk.inj h; exact hs
  | succ n ih =>
    intro acc l s s' h hs
    rw [prTags] at h
    exact rText_stick (x := (rText zs s).1) rfl (rText_stick (x := (rText zs (rText zs s).2).1) rfl (ih _ _ _ _ h hs))
theorem prErr_back {zs : List Int} (hz : Byt zs) (h : prErr zs = 0) : spEnc (prSp zs) = zs ∧ spChk (prSp zs) = 0 ∧ (prSp zs).U64 := by
  have hsp : prSp zs = (prAll zs).1 := by rw [prSp, if_pos h]
  rw [hsp]
  rw [prErr] at h
  obtain ⟨s, st, hall⟩ : ∃ s st, prAll zs = (s, st) := ⟨_, _, rfl⟩
  rw [hall] at h ⊢
  simp only at h ⊢
  rw [prErrOf] at h
  by_cases he : st.e = 0
  case neg => rw [if_pos he] at h; exact absurd h he
  rw [if_neg (by omega)] at h
  by_cases hb : st.bad = true
  · rw [if_pos hb] at h; cases h
  rw [if_neg hb] at h
  by_cases hp : st.p < zs.length
  · rw [if_pos hp] at h; cases h
  rw [if_neg hp] at h
  have hst : st.stop = false := by simp [RS.stop, he, hb]
  obtain ⟨h0, n, r0, hh⟩ : ∃ h0 n r0, prHead zs = (h0, n, r0) := ⟨_, _, _, rfl⟩
  obtain ⟨tl, r1, ht⟩ : ∃ tl r1, prTags zs n [] r0 = (tl, r1) := ⟨_, _, rfl⟩
  rw [prAll, hh] at hall
  simp only [ht] at hall
  obtain ⟨hs, rfl⟩ := Prod.mk.inj hall
  have k11 := prTags_stick _ _ _ _ _ ht hst
  unfold prHead at hh
  obtain ⟨x1, s1, h1⟩ : ∃ x s, rEight zs ⟨0, 0, false⟩ = (x, s) := ⟨_, _, rfl⟩
  obtain ⟨x2, s2, h2⟩ : ∃ x s, rEight zs s1 = (x, s) := ⟨_, _, rfl⟩
  obtain ⟨x3, s3, h3⟩ : ∃ x s, rEight zs s2 = (x, s) := ⟨_, _, rfl⟩
  obtain ⟨x4, s4, h4⟩ : ∃ x s, rEight zs s3 = (x, s) := ⟨_, _, rfl⟩
  obtain ⟨t5, s5, h5⟩ : ∃ x s, rText zs s4 = (x, s) := ⟨_, _, rfl⟩
  obtain ⟨t6, s6, h6⟩ : ∃ x s, rText zs s5 = (x, s) := ⟨_, _, rfl⟩
  obtain ⟨x7, s7, h7⟩ : ∃ x s, rOne 255 zs s6 = (x, s) := ⟨_, _, rfl⟩
  obtain ⟨x8, s8, h8⟩ : ∃ x s, rShort 4611686018427387903 zs s7 = (x, s) := ⟨_, _, rfl⟩
  obtain ⟨x9, s9, h9⟩ : ∃ x s, rShort 4611686018427387903 zs s8 = (x, s) := ⟨_, _, rfl⟩
  obtain ⟨x10, s10, h10⟩ : ∃ x s, rOne 1 zs s9 = (x, s) := ⟨_, _, rfl⟩
  obtain ⟨x11, s11, h11⟩ : ∃ x s, rShort 16 zs s10 = (x, s) := ⟨_, _, rfl⟩
  simp only [h1, h2, h3, h4, h5, h6, h7, h8, h9, h10, h11, Prod.mk.injEq] at hh
  obtain ⟨rfl, rfl, rfl⟩ := hh
  have k10 := rShort_stick h11 k11
  have k9 := rOne_stick h10 k10
  have k8 := rShort_stick h9 k9
  have k7 := rShort_stick h8 k8
  have k6 := rOne_stick h7 k7
  have k5 := rText_stick h6 k6
  have k4 := rText_stick h5 k5
  have k3 := rEight_stick h4 k4
  have k2 := rEight_stick h3 k3
  have k1 := rEight_stick h2 k2
  obtain ⟨-, p1, d1, u1⟩ := rEight_back hz (Nat.zero_le _) h1 k1
  obtain ⟨-, p2, d2, u2⟩ := rEight_back hz p1 h2 k2
  obtain ⟨-, p3, d3, u3⟩ := rEight_back hz p2 h3 k3
  obtain ⟨-, p4, d4, u4⟩ := rEight_back hz p3 h4 k4
  obtain ⟨-, p5, d5⟩ := rText_back hz p4 h5 k5
  obtain ⟨-, p6, d6⟩ := rText_back hz p5 h6 k6
  obtain ⟨-, p7, d7, -, v7, v7'⟩ := rOne_back hz p6 h7 k7
  obtain ⟨-, p8, d8⟩ := rShort_back hz p7 h8 k8
  obtain ⟨-, p9, d9⟩ := rShort_back hz p8 h9 k9
  obtain ⟨-, p10, d10, v10, v10', -⟩ := rOne_back hz p9 h10 k10
  obtain ⟨-, p11, d11⟩ := rShort_back hz p10 h11 k11
  obtain ⟨-, p12, m, hm, hml, d12⟩ := prTags_back hz _ _ _ _ _ p11 ht hst
  rw [List.nil_append] at hm
  subst hm
  subst hs
  refine ⟨?_, h, u1, u2, u3, u4⟩
  have hend : zs.drop r1.p = [] := List.drop_eq_nil_of_le (by omega)
  have hx7 : x7 % 256 = x7 := by omega
  have hx10 : (if (x10 == 1) = true then 1 else 0) = x10 := by
    by_cases hx : x10 = 1
    · rw [hx]; rfl
    · have : x10 = 0 := by omega
      rw [this]; rfl
  have e0 : zs = zs.drop 0 := rfl
  conv => rhs; rw [e0, d1, d2, d3, d4, d5, d6, d7, d8, d9, d10, d11, d12, hend]
  rw [spEnc, spHead]
  simp only [hx7, hx10, Int.toNat_natCast, hml]
  simp
end Go.Proofs.Ytohnpogoldbplaa
