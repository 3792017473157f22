/- The statement WireAfter: all keys with a first part stand from it on up to below what is after it. The walk. -/
import Derived.Test.YtoflefonhegogaaLives
import Derived.Test.YtoflefonhegogaaOpen
namespace Go.Proofs.Ytoflefonhegogaa
open Go.RowKit

theorem ltb_irrefl (p : List Int) : ltb p p = false := by induction p with | nil => rfl | cons x p ih => simp [ltb, ih]
/-- Below a list with one byte more at its end, just if below it, or with it at its head. -/
theorem take_eq_iff {k p : List Int} : (p.length ≤ k.length ∧ k.take p.length = p) ↔ ∃ r, k = p ++ r := by
  constructor
  · rintro ⟨_, h⟩
    exact ⟨k.drop p.length, by conv => lhs; rw [← List.take_append_drop p.length k, h]⟩
  · rintro ⟨r, rfl⟩
    simp
theorem ltb_append_left (p r : List Int) : ltb (p ++ r) p = false := by
  induction p with
  | nil => cases r <;> rfl
  | cons x p ih => simp [ltb, ih]
/-- k is not below p, and below q ++ [x + 1] where p is q ++ [x] ++ 255s: just if k begins with p. -/
theorem inside_iff : ∀ (q : List Int) (x : Int) (m : Nat) (k : List Int), Byt k → ((ltb k (q ++ [x] ++ List.replicate m 255) = false ∧ ltb k (q ++ [x + 1]) = true) ↔ ∃ r, k = q ++ [x] ++ List.replicate m 255 ++ r) := by
  have tail : ∀ (m : Nat) (k : List Int), Byt k → (ltb k (List.replicate m 255) = false ↔ ∃ r, k = List.replicate m 255 ++ r) := by
    intro m
    induction m with
    | zero => intro k _; cases k <;> simp [ltb]
    | succ m ih =>
      intro k hk
      cases k with
      | nil => simp [ltb, List.replicate_succ]
      | cons y k =>
        have hy := hk y (by simp)
        have hk' : Byt k := fun z hz => hk z (by simp [hz])
        rw [List.replicate_succ]
        simp only [ltb, Bool.or_eq_false_iff, decide_eq_false_iff_not, Bool.and_eq_false_iff, List.cons_append, List.cons.injEq]
        constructor
        · rintro ⟨h1, h2⟩
          have e : y = 255 := by omega
          rcases h2 with h2 | h2
          · exact absurd e h2
          · obtain ⟨r, hr⟩ := (ih k hk').1 h2
            exact ⟨r, e, hr⟩
        · rintro ⟨r, e, hr⟩
          exact ⟨by omega, .inr ((ih k hk').2 ⟨r, hr⟩)⟩
  intro q
  induction q with
  | nil =>
    intro x m k hk
    cases k with
    | nil => simp [ltb]
    | cons y k =>
      have hk' : Byt k := fun z hz => hk z (by simp [hz])
      simp only [List.nil_append, List.cons_append, ltb, Bool.or_eq_false_iff, decide_eq_false_iff_not, Bool.and_eq_false_iff, Bool.or_eq_true, decide_eq_true_eq, Bool.and_eq_true, List.cons.injEq]
      constructor
      · rintro ⟨⟨h1, h2⟩, h3⟩
        have e : y = x := by
          rcases h3 with h3 | ⟨_, h3⟩
          · omega
          · simp at h3
        rcases h2 with h2 | h2
        · exact absurd e h2
        · obtain ⟨r, hr⟩ := (tail m k hk').1 h2
          exact ⟨r, e, hr⟩
      · rintro ⟨r, e, hr⟩
        exact ⟨⟨by omega, .inr ((tail m k hk').2 ⟨r, hr⟩)⟩, .inl (by omega)⟩
  | cons z q ih =>
    intro x m k hk
    cases k with
    | nil => simp [ltb]
    | cons y k =>
      have hk' : Byt k := fun z hz => hk z (by simp [hz])
      have := ih x m k hk'
      simp only [List.cons_append, ltb, Bool.or_eq_false_iff, decide_eq_false_iff_not, Bool.and_eq_false_iff, Bool.or_eq_true, decide_eq_true_eq, Bool.and_eq_true, List.cons.injEq] at this ⊢
      constructor
      · rintro ⟨⟨h1, h2⟩, h3⟩
        have e : y = z := by
          rcases h3 with h3 | ⟨h3, _⟩ <;> omega
        rcases h2 with h2 | h2
        · exact absurd e h2
        · rcases h3 with h3 | ⟨_, h3⟩
          · omega
          · obtain ⟨r, hr⟩ := this.1 ⟨h2, h3⟩
            exact ⟨r, e, hr⟩
      · rintro ⟨r, e, hr⟩
        obtain ⟨h2, h3⟩ := this.2 ⟨r, hr⟩
        exact ⟨⟨by omega, .inr h2⟩, .inr ⟨e, h3⟩⟩
theorem cut_shape (p : List Int) (h : 0 < cutN p p.length) : ∃ q x m, p = q ++ [x] ++ List.replicate m 255 ∧ aftOf p = q ++ [x + 1] := by
  have hle := cutN_le p p.length
  obtain ⟨q, hq⟩ : ∃ q, cutN p p.length = q + 1 := ⟨cutN p p.length - 1, by omega⟩
  have hget : p[q]? = some (p.getD q 0) := by
    rw [List.getD, List.getElem?_eq_getElem (show q < p.length from by omega)]; rfl
  refine ⟨p.take q, p.getD q 0, p.length - (q + 1), ?_, by rw [aftOf, hq]; rfl⟩
  rw [← take_snoc hget]
  conv => lhs; rw [← List.take_append_drop (q + 1) p]
  congr 1
  apply List.ext_getElem?
  intro i
  rw [List.getElem?_drop, List.getElem?_replicate]
  split
  · exact cutN_rest p p.length _ (by omega) (by omega)
  · rw [List.getElem?_eq_none (by omega)]
theorem after_law0 (p k : List Int) (h : cutN p p.length = 0) : (decide (p.length ≤ k.length) && eqb (k.take p.length) p) = true → ltb k p = false := by
  intro hh
  simp only [Bool.and_eq_true, decide_eq_true_eq, eqb_true] at hh
  obtain ⟨r, rfl⟩ := take_eq_iff.1 hh
  exact ltb_append_left p r
theorem after_law1 (p k : List Int) (hk : Byt k) (h : 0 < cutN p p.length) : (decide (p.length ≤ k.length) && eqb (k.take p.length) p) = (!(ltb k p) && ltb k (aftOf p)) := by
  obtain ⟨q, x, m, hp, ha⟩ := cut_shape p h
  have := inside_iff q x m k hk
  rw [← hp, ← ha] at this
  rw [Bool.eq_iff_iff]
  simp only [Bool.and_eq_true, decide_eq_true_eq, eqb_true, Bool.not_eq_true']
  rw [take_eq_iff, this]

theorem byt_aft {p : List Int} (h : Byt p) (hc : 0 < cutN p p.length) : Byt (aftOf p) := by
  have hle := cutN_le p p.length
  have hl := cutN_last p p.length hc
  intro y hy
  rw [aftOf, List.mem_append, List.mem_singleton] at hy
  rcases hy with hy | rfl
  · exact h y (List.mem_of_mem_take hy)
  · have hlt : cutN p p.length - 1 < p.length := by omega
    have e := List.getElem?_eq_getElem hlt
    have hb := h.get e
    rw [List.getD, e]
    rw [e] at hl
    simp at hl ⊢
    omega
set_option maxHeartbeats 4000000 in
theorem wireAfter_walk (A : Option Addr) (n c : Nat) (p : List Int) (A' : Option Addr) (n' c' : Nat) (k : List Int) (w : World) (hp : InB w A n c p) (hk : InB w A' n' c' k) :
    Calls Try.prog 3 #[.slice A n c, .slice A' n' c'] w fun e w' => e = .returned (.bool true) ∧ Below w.heap.size w w' := by
  obtain ⟨rp, lp, cp, mp, bp, np⟩ := hp
  obtain ⟨rk, lk, ck, mk, bk, nk⟩ := hk
  unfold maxLen at mp mk
  by_cases hlong : 5000 < n ∨ 5000 < n'
  · go_enter Try.func3, Try.ntmps3
    go_wp2_with fail
    refine (lives_true w).mono ?_
    rintro e w1 ⟨rfl, hb⟩
    by_cases h1 : 5000 < n
    · go_wp2_with fail
      go_ret
      exact ⟨rfl, hb⟩
    · have h2 : 5000 < n' := by omega
      go_wp2_with fail
      go_ret
      exact ⟨rfl, hb⟩
  · have h1 : n ≤ 5000 := by omega
    have h2 : n' ≤ 5000 := by omega
    clear hlong
    go_enter Try.func3, Try.ntmps3
    go_wp2_with fail
    refine (lives_true w).mono ?_
    rintro e w1 ⟨rfl, hb⟩
    replace rp := rp.belowS hb
    replace rk := rk.belowS hb
    by_cases hkp : n ≤ n'
    · go_wp2_with fail
      refine (kitBytes (xs := k.take n) _ (Rb.take rk n) rp (by simp only [maxLen]; simp; omega) (by simp only [maxLen]; omega) (by simp; omega) lp).mono ?_
      rintro e w2 ⟨rfl, n2, hw⟩
      subst hw
      replace hb := below_drewN hb n2
      replace rp := rp.drewN n2
      replace rk := rk.drewN n2
      cases hE : eqb (k.take n) p
      · have HE : Hid ((decide (n ≤ n') && eqb (k.take n) p) = false) := Lib.hid (by simp [hE])
        clear hE
        go_wp2_with fail
        refine (kitOwn _ rp (Nat.le_refl _) (by omega) lp).mono ?_
        rintro e w3 ⟨A3, c3, rfl, happ, hne3⟩
        have hb3 := happ.below0
        replace hb := hb.trans (hb3.mono hb.size)
        replace rp := rp.belowS hb3
        replace rk := rk.belowS hb3
        have r3 : Rb w3 w3.heap.size A3 p := Rd.of_own happ.own
        have hc3 : p.length ≤ c3 := by
          rcases happ.own.2 with ⟨h1, h2⟩ | ⟨_, _, _, h1, _, _, h2, _⟩
          · omega
          · injection h1 with _ _ h3; omega
        clear happ hb3
        by_cases hcut : cutN p p.length = 0
        · have hlaw := after_law0 p k hcut
          rw [lp, lk, HE.out] at hlaw
          go_wp2_with fail
          refine (wireAfter0 _ r3 (by simp only [maxLen]; omega) hcut lp).mono ?_
          rintro e w4 ⟨rfl, hw⟩
          subst hw
          go_wp2_with fail
          refine (kitBefore _ rk rp bk bp lk lp).mono ?_
          rintro e w5 ⟨rfl, hw⟩
          subst hw
          cases hb1 : ltb k p
          · clear hlaw hcut
            go_wp2
            go_ret
            exact ⟨rfl, hb⟩
          · clear hlaw
            go_wp2
            go_ret
            exact ⟨rfl, hb⟩
        · have hcut' : 0 < cutN p p.length := by omega
          have hlaw := after_law1 p k bk hcut'
          have hba : Byt (aftOf p) := byt_aft bp hcut'
          rw [lp, lk, HE.out] at hlaw
          go_wp2_with fail
          refine (wireAfter1 _ r3 (Nat.le_refl _) (by omega) bp hcut' lp hc3).mono ?_
          rintro e w4 ⟨A4, c4, rfl, happ, hne4⟩
          have hb4 := happ.below0
          replace hb := hb.trans (hb4.mono hb.size)
          replace rp := rp.belowS hb4
          replace rk := rk.belowS hb4
          have r4 : Rb w4 w4.heap.size A4 (aftOf p) := Rd.of_own happ.own
          clear happ hb4 hcut hcut'
          go_wp2_with fail
          refine (kitBefore _ rk rp bk bp lk lp).mono ?_
          rintro e w5 ⟨rfl, hw⟩
          subst hw
          cases hb1 : ltb k p
          · rw [hb1, Bool.not_false, Bool.true_and] at hlaw
            have HLAW := Lib.hid hlaw.symm
            clear hlaw hb1
            go_wp2_with fail
            refine (kitBefore _ rk r4 bk hba lk rfl).mono ?_
            rintro e w6 ⟨rfl, hw⟩
            subst hw
            rw [HLAW.out]
            clear HLAW
            go_wp2
            go_ret
            exact ⟨rfl, hb⟩
          · rw [hb1] at hlaw
            clear hlaw hb1
            go_wp2
            go_ret
            exact ⟨rfl, hb⟩
      · have HE : Hid ((decide (n ≤ n') && eqb (k.take n) p) = true) := Lib.hid (by simp [hE, hkp])
        clear hE
        go_wp2_with fail
        refine (kitOwn _ rp (Nat.le_refl _) (by omega) lp).mono ?_
        rintro e w3 ⟨A3, c3, rfl, happ, hne3⟩
        have hb3 := happ.below0
        replace hb := hb.trans (hb3.mono hb.size)
        replace rp := rp.belowS hb3
        replace rk := rk.belowS hb3
        have r3 : Rb w3 w3.heap.size A3 p := Rd.of_own happ.own
        have hc3 : p.length ≤ c3 := by
          rcases happ.own.2 with ⟨h1, h2⟩ | ⟨_, _, _, h1, _, _, h2, _⟩
          · omega
          · injection h1 with _ _ h3; omega
        clear happ hb3
        by_cases hcut : cutN p p.length = 0
        · have hlaw := after_law0 p k hcut
          rw [lp, lk, HE.out] at hlaw
          go_wp2_with fail
          refine (wireAfter0 _ r3 (by simp only [maxLen]; omega) hcut lp).mono ?_
          rintro e w4 ⟨rfl, hw⟩
          subst hw
          go_wp2_with fail
          refine (kitBefore _ rk rp bk bp lk lp).mono ?_
          rintro e w5 ⟨rfl, hw⟩
          subst hw
          cases hb1 : ltb k p
          · clear hlaw hcut
            go_wp2
            go_ret
            exact ⟨rfl, hb⟩
          · simp [hb1] at hlaw
        · have hcut' : 0 < cutN p p.length := by omega
          have hlaw := after_law1 p k bk hcut'
          have hba : Byt (aftOf p) := byt_aft bp hcut'
          rw [lp, lk, HE.out] at hlaw
          go_wp2_with fail
          refine (wireAfter1 _ r3 (Nat.le_refl _) (by omega) bp hcut' lp hc3).mono ?_
          rintro e w4 ⟨A4, c4, rfl, happ, hne4⟩
          have hb4 := happ.below0
          replace hb := hb.trans (hb4.mono hb.size)
          replace rp := rp.belowS hb4
          replace rk := rk.belowS hb4
          have r4 : Rb w4 w4.heap.size A4 (aftOf p) := Rd.of_own happ.own
          clear happ hb4 hcut hcut'
          go_wp2_with fail
          refine (kitBefore _ rk rp bk bp lk lp).mono ?_
          rintro e w5 ⟨rfl, hw⟩
          subst hw
          cases hb1 : ltb k p
          · rw [hb1, Bool.not_false, Bool.true_and] at hlaw
            have HLAW := Lib.hid hlaw.symm
            clear hlaw hb1
            go_wp2_with fail
            refine (kitBefore _ rk r4 bk hba lk rfl).mono ?_
            rintro e w6 ⟨rfl, hw⟩
            subst hw
            rw [HLAW.out]
            clear HLAW
            go_wp2
            go_ret
            exact ⟨rfl, hb⟩
          · rw [hb1] at hlaw
            exact absurd hlaw (by simp)
    · have HE : Hid ((decide (n ≤ n') && eqb (k.take n) p) = false) := Lib.hid (by simp [hkp])
      go_wp2_with fail
      refine (kitOwn _ rp (Nat.le_refl _) (by omega) lp).mono ?_
      rintro e w3 ⟨A3, c3, rfl, happ, hne3⟩
      have hb3 := happ.below0
      replace hb := hb.trans (hb3.mono hb.size)
      replace rp := rp.belowS hb3
      replace rk := rk.belowS hb3
      have r3 : Rb w3 w3.heap.size A3 p := Rd.of_own happ.own
      have hc3 : p.length ≤ c3 := by
        rcases happ.own.2 with ⟨h1, h2⟩ | ⟨_, _, _, h1, _, _, h2, _⟩
        · omega
        · injection h1 with _ _ h3; omega
      clear happ hb3
      by_cases hcut : cutN p p.length = 0
      · have hlaw := after_law0 p k hcut
        rw [lp, lk, HE.out] at hlaw
        go_wp2_with fail
        refine (wireAfter0 _ r3 (by simp only [maxLen]; omega) hcut lp).mono ?_
        rintro e w4 ⟨rfl, hw⟩
        subst hw
        go_wp2_with fail
        refine (kitBefore _ rk rp bk bp lk lp).mono ?_
        rintro e w5 ⟨rfl, hw⟩
        subst hw
        cases hb1 : ltb k p
        · clear hlaw hcut
          go_wp2
          go_ret
          exact ⟨rfl, hb⟩
        · clear hlaw
          go_wp2
          go_ret
          exact ⟨rfl, hb⟩
      · have hcut' : 0 < cutN p p.length := by omega
        have hlaw := after_law1 p k bk hcut'
        have hba : Byt (aftOf p) := byt_aft bp hcut'
        rw [lp, lk, HE.out] at hlaw
        go_wp2_with fail
        refine (wireAfter1 _ r3 (Nat.le_refl _) (by omega) bp hcut' lp hc3).mono ?_
        rintro e w4 ⟨A4, c4, rfl, happ, hne4⟩
        have hb4 := happ.below0
        replace hb := hb.trans (hb4.mono hb.size)
        replace rp := rp.belowS hb4
        replace rk := rk.belowS hb4
        have r4 : Rb w4 w4.heap.size A4 (aftOf p) := Rd.of_own happ.own
        clear happ hb4 hcut hcut'
        go_wp2_with fail
        refine (kitBefore _ rk rp bk bp lk lp).mono ?_
        rintro e w5 ⟨rfl, hw⟩
        subst hw
        cases hb1 : ltb k p
        · rw [hb1, Bool.not_false, Bool.true_and] at hlaw
          have HLAW := Lib.hid hlaw.symm
          clear hlaw hb1
          go_wp2_with fail
          refine (kitBefore _ rk r4 bk hba lk rfl).mono ?_
          rintro e w6 ⟨rfl, hw⟩
          subst hw
          rw [HLAW.out]
          clear HLAW
          go_wp2
          go_ret
          exact ⟨rfl, hb⟩
        · rw [hb1] at hlaw
          clear hlaw hb1
          go_wp2
          go_ret
          exact ⟨rfl, hb⟩
end Go.Proofs.Ytoflefonhegogaa
