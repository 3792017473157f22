/- Spans: the plain law, back: what was read was so put into bytes. -/
import Derived.Test.YtohnpogoldbplaaSpX
namespace Go.Proofs.Ytohnpogoldbplaa
open Go.RowKit

theorem stop_mk {p e : Nat} {b : Bool} (h : RS.stop ⟨p, e, b⟩ = false) : e = 0 ∧ b = false := stop_false h
theorem rEight_back {zs : List Int} (hz : Byt zs) {s s' : RS} {x : Nat} (hp : s.p ≤ zs.length) (h : rEight zs s = (x, s')) (hs : s'.stop = false) :
    s.stop = false ∧ s'.p ≤ zs.length ∧ zs.drop s.p = ordEnc x ++ zs.drop s'.p ∧ x < 18446744073709551616 := by
  by_cases hst : s.stop = true
  · rw [rEight, if_pos hst] at h
    obtain ⟨-, rfl⟩ := Prod.mk.inj h
    rw [hst] at hs; cases hs
  have hst : s.stop = false := by simpa using hst
  obtain ⟨p, e, b⟩ := s
  obtain ⟨rfl, rfl⟩ := stop_mk hst
  rw [rEight, if_neg (by rw [hst]; simp)] at h
  obtain ⟨h1, rfl⟩ := Prod.mk.inj h
  simp only at h1 hs hp ⊢
  obtain ⟨he, -⟩ := stop_mk hs
  by_cases hl : zs.length - p < 8
  · rw [rdFix, if_neg (by simp), if_pos hl] at he; cases he
  have hfix : rdFix zs p 0 8 = ((zs.drop p).take 8, p + 8, 0) := by rw [rdFix, if_neg (by simp), if_neg hl]
  rw [hfix] at h1 ⊢
  simp only at h1 ⊢
  have hlen : ((zs.drop p).take 8).length = 8 := by rw [List.length_take, List.length_drop]; omega
  rw [if_neg (by omega)] at h1
  have hb : Byt ((zs.drop p).take 8) := (hz.drop p).take 8
  have hback := ordTo_back _ hb
  rw [hlen, h1] at hback
  refine ⟨rfl, by omega, ?_, ?_⟩
  · rw [ordEnc, hback, ← List.drop_drop, List.take_append_drop]
  · rw [← h1]
    exact Nat.lt_of_lt_of_le (ordVal_lt 8 _ hb hlen) (by decide)
theorem rText_back {zs : List Int} (hz : Byt zs) {s s' : RS} {x : ByteArray} (hp : s.p ≤ zs.length) (h : rText zs s = (x, s')) (hs : s'.stop = false) :
    s.stop = false ∧ s'.p ≤ zs.length ∧ zs.drop s.p = pie x ++ zs.drop s'.p := by
  by_cases hst : s.stop = true
  · rw [rText, if_pos hst] at h
    obtain ⟨-, rfl⟩ := Prod.mk.inj h
    rw [hst] at hs; cases hs
  have hst : s.stop = false := by simpa using hst
  obtain ⟨p, e, b⟩ := s
  obtain ⟨rfl, rfl⟩ := stop_mk hst
  rw [rText, if_neg (by rw [hst]; simp)] at h
  obtain ⟨h1, rfl⟩ := Prod.mk.inj h
  simp only at h1 hs hp ⊢
  obtain ⟨he, -⟩ := stop_mk hs
  obtain ⟨v, m, er, hso⟩ : ∃ v m er, shortOf (zs.drop p) = (v, m, er) := ⟨_, _, _, rfl⟩
  obtain ⟨hm, -, hv64, -⟩ := shortOf_drop hz hp hso
  rw [rdPiece, if_neg (by simp), hso] at h1 he ⊢
  simp only at h1 he ⊢
  by_cases her : er = 0
  case neg => rw [if_pos her] at he; exact absurd he her
  subst her
  rw [if_neg (by simp)] at h1 he ⊢
  by_cases hv : 1048576 < v
  · rw [if_pos hv] at he; cases he
  rw [if_neg hv] at h1 he ⊢
  by_cases hl : zs.length - (p + m) < v
  · rw [if_pos hl] at he; cases he
  rw [if_neg hl] at h1 ⊢
  simp only at h1 ⊢
  obtain ⟨hb1, hb2⟩ := shortOf_back (hz.drop p) hso
  have hbt : Byt ((zs.drop (p + m)).take v) := (hz.drop _).take v
  have hlen : ((zs.drop (p + m)).take v).length = v := by rw [List.length_take, List.length_drop]; omega
  have hn : nums x = (zs.drop (p + m)).take v := by rw [← h1, nums_strOf hbt]
  have hsz : x.size = v := by rw [← nums_len, hn, hlen]
  refine ⟨rfl, by omega, ?_⟩
  rw [pie, hsz, hn, ← hb1, List.append_assoc]
  conv => lhs; rw [← List.take_append_drop m (zs.drop p)]
  congr 1
  rw [List.drop_drop]
  conv => lhs; rw [← List.take_append_drop v (zs.drop (p + m))]
  rw [List.drop_drop]
theorem rOne_back {zs : List Int} (hz : Byt zs) {s s' : RS} {x most : Int} (hp : s.p ≤ zs.length) (h : rOne most zs s = (x, s')) (hs : s'.stop = false) :
    s.stop = false ∧ s'.p ≤ zs.length ∧ zs.drop s.p = [x] ++ zs.drop s'.p ∧ x ≤ most ∧ 0 ≤ x ∧ x ≤ 255 := by
  by_cases hst : s.stop = true
  · rw [rOne, if_pos hst] at h
    obtain ⟨-, rfl⟩ := Prod.mk.inj h
    rw [hst] at hs; cases hs
  have hst : s.stop = false := by simpa using hst
  obtain ⟨p, e, b⟩ := s
  obtain ⟨rfl, rfl⟩ := stop_mk hst
  rw [rOne, if_neg (by rw [hst]; simp)] at h
  simp only at h hp ⊢
  rw [rdFix, if_neg (by simp)] at h
  by_cases hl : zs.length - p < 1
  · rw [if_pos hl] at h
    obtain ⟨-, rfl⟩ := Prod.mk.inj h
    obtain ⟨he, -⟩ := stop_mk hs
    cases he
  rw [if_neg hl] at h
  have hlen : ((zs.drop p).take 1).length = 1 := by rw [List.length_take, List.length_drop]; omega
  obtain ⟨y, hy⟩ := List.length_eq_one_iff.1 hlen
  simp only [hy] at h
  obtain ⟨rfl, rfl⟩ := Prod.mk.inj h
  obtain ⟨-, hb⟩ := stop_mk hs
  have hbt : Byt ((zs.drop p).take 1) := (hz.drop p).take 1
  have hyb := hbt y (by rw [hy]; simp)
  simp only at hs ⊢
  refine ⟨rfl, by omega, ?_, by simpa using hb, hyb.1, hyb.2⟩
  conv => lhs; rw [← List.take_append_drop 1 (zs.drop p), hy]
  rw [List.drop_drop]
theorem rShort_back {zs : List Int} (hz : Byt zs) {s s' : RS} {x most : Nat} (hp : s.p ≤ zs.length) (h : rShort most zs s = (x, s')) (hs : s'.stop = false) :
    s.stop = false ∧ s'.p ≤ zs.length ∧ zs.drop s.p = numEnc x ++ zs.drop s'.p := by
  by_cases hst : s.stop = true
  · rw [rShort, if_pos hst] at h
    obtain ⟨-, rfl⟩ := Prod.mk.inj h
    rw [hst] at hs; cases hs
  have hst : s.stop = false := by simpa using hst
  obtain ⟨p, e, b⟩ := s
  obtain ⟨rfl, rfl⟩ := stop_mk hst
  rw [rShort, if_neg (by rw [hst]; simp)] at h
  simp only at h hp ⊢
  by_cases hm : most < (rdNum zs p 0).1
  · rw [if_pos hm] at h
    obtain ⟨-, rfl⟩ := Prod.mk.inj h
    obtain ⟨-, hb⟩ := stop_mk hs
    cases hb
  rw [if_neg hm] at h
  obtain ⟨h1, rfl⟩ := Prod.mk.inj h
  obtain ⟨he, -⟩ := stop_mk hs
  simp only at h1 he ⊢
  obtain ⟨v, m, er, hso⟩ : ∃ v m er, shortOf (zs.drop p) = (v, m, er) := ⟨_, _, _, rfl⟩
  obtain ⟨hmm, -, hv64, -⟩ := shortOf_drop hz hp hso
  rw [rdNum, if_neg (by simp), hso] at h1 he ⊢
  simp only at h1 he ⊢
  subst h1 he
  obtain ⟨hb1, hb2⟩ := shortOf_back (hz.drop p) hso
  refine ⟨rfl, by omega, ?_⟩
  conv => lhs; rw [← List.take_append_drop m (zs.drop p), hb1]
  rw [List.drop_drop]
theorem prTags_back {zs : List Int} (hz : Byt zs) : ∀ (n : Nat) (acc l : List Tg) (s s' : RS), s.p ≤ zs.length → prTags zs n acc s = (l, s') → s'.stop = false →
    s.stop = false ∧ s'.p ≤ zs.length ∧ ∃ m, l = acc ++ m ∧ m.length = n ∧ zs.drop s.p = m.flatMap tgEnc ++ zs.drop s'.p := by
  intro n
  induction n with
  | zero =>
    intro acc l s s' hp h hs
    rw [prTags] at h
    obtain ⟨rfl, rfl⟩ := Prod.mk.inj h
    exact ⟨hs, hp, [], by simp, rfl, by simp⟩
  | succ n ih =>
    intro acc l s s' hp h hs
    rw [prTags] at h
    obtain ⟨k, s1, e1⟩ : ∃ k s1, rText zs s = (k, s1) := ⟨_, _, rfl⟩
    obtain ⟨v, s2, e2⟩ : ∃ v s2, rText zs s1 = (v, s2) := ⟨_, _, rfl⟩
    rw [e1] at h
    simp only [e2] at h
    have hp1 : s1.p ≤ zs.length ∨ s1.stop = true := by
      cases hst : s1.stop with
      | true => exact .inr rfl
      | false => exact .inl (rText_back hz hp e1 hst).2.1
    have hp2 : s2.stop = false ∧ s2.p ≤ zs.length ∧ s1.p ≤ zs.length := by
      rcases hp1 with hp1 | hst1
      · cases hst2 : s2.stop with
        | false => exact ⟨rfl, (rText_back hz hp1 e2 hst2).2.1, hp1⟩
        | true =>
          exfalso
          have : ∀ (n : Nat) (acc l : List Tg) (a b : RS), a.stop = true → prTags zs n acc a = (l, b) → b.stop = true := by
            intro n
            induction n with
            | zero => intro acc l a b ha h; rw [prTags] at h; obtain ⟨-, rfl⟩ := Prod.mk.inj h; exact ha
            | succ n ih2 =>
              intro acc l a b ha h
              have ea : rText zs a = (⟨#[]⟩, a) := by rw [rText, if_pos ha]
              rw [prTags, ea] at h
              simp only [ea] at h
              exact ih2 _ _ _ _ ha h
          have := this n _ _ _ _ hst2 h
          rw [hs] at this
          cases this
      · exfalso
        have ea : rText zs s1 = (⟨#[]⟩, s1) := by rw [rText, if_pos hst1]
        rw [ea] at e2
        obtain ⟨-, rfl⟩ := Prod.mk.inj e2
        have : ∀ (n : Nat) (acc l : List Tg) (a b : RS), a.stop = true → prTags zs n acc a = (l, b) → b.stop = true := by
          intro n
          induction n with
          | zero => intro acc l a b ha h; rw [prTags] at h; obtain ⟨-, rfl⟩ := Prod.mk.inj h; exact ha
          | succ n ih2 =>
            intro acc l a b ha h
            have ea : rText zs a = (⟨#[]⟩, a) := by rw [rText, if_pos ha]
            rw [prTags, ea] at h
            simp only [ea] at h
            exact ih2 _ _ _ _ ha h
        have := this n _ _ _ _ hst1 h
        rw [hs] at this
        cases this
    obtain ⟨hs2, hp2, hp1⟩ := hp2
    obtain ⟨-, hp', m, hm, hml, hd⟩ := ih _ _ _ _ hp2 h hs
    obtain ⟨hs1, -, d2⟩ := rText_back hz hp1 e2 hs2
    obtain ⟨hs0, -, d1⟩ := rText_back hz hp e1 hs1
    refine ⟨hs0, hp', ⟨k, v⟩ :: m, by rw [hm]; simp, by simp [hml], ?_⟩
    rw [d1, d2, hd, List.flatMap_cons, tgEnc]
    simp
end Go.Proofs.Ytohnpogoldbplaa
