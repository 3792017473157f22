/- The document's order of entries, its check of one. -/
import Derived.BigRegion
import Derived.BigQuiet
import Derived.Deep.Cut
import Derived.Test.YtleghbdkjdpilaaEnO
namespace Go.Proofs.Ytleghbdkjdpilaa
open Go.RowKit

theorem ltb_drop {xs ys : List Int} {k : Nat} {x y : Int} (hx : xs[k]? = some x) (hy : ys[k]? = some y) : ltb (xs.drop k) (ys.drop k) = (decide (x < y) || (decide (x = y) && ltb (xs.drop (k + 1)) (ys.drop (k + 1)))) := by
  obtain ⟨h1, rfl⟩ := List.getElem?_eq_some_iff.1 hx
  obtain ⟨h2, rfl⟩ := List.getElem?_eq_some_iff.1 hy
  rw [List.drop_eq_getElem_cons h1, List.drop_eq_getElem_cons h2, ltb]
theorem ltb_end {xs ys : List Int} {k : Nat} (h : k = xs.length ∨ k = ys.length) (h1 : k ≤ xs.length) (h2 : k ≤ ys.length) : ltb (xs.drop k) (ys.drop k) = decide (xs.length < ys.length) := by
  rcases h with h | h
  · rw [List.drop_eq_nil_of_le (by omega : xs.length ≤ k)]
    by_cases hlt : k < ys.length
    · rw [List.drop_eq_getElem_cons hlt, ltb]
      simp
      omega
    · rw [List.drop_eq_nil_of_le (by omega : ys.length ≤ k), ltb]
      simp
      omega
  · rw [List.drop_eq_nil_of_le (by omega : ys.length ≤ k)]
    have : ltb (xs.drop k) [] = false := by cases xs.drop k <;> rfl
    rw [this]
    simp
    omega
set_option maxRecDepth 100000 in
set_option maxHeartbeats 1000000 in
theorem rBefore {A A' : Option Addr} {c c' B B' n n' : Nat} {xs ys : List Int} (w : World) (ha : Rb w B A xs) (hb : Rb w B' A' ys) (hx : xs.length ≤ maxLen) (hy : ys.length ≤ maxLen) (hn : xs.length = n) (hn' : ys.length = n') :
    Calls Try.prog 34 #[.slice A n c, .slice A' n' c'] w fun e w' => e = .returned (.bool (ltb xs ys)) ∧ ∃ n, w' = w.drewN n := by
  subst hn hn'
  unfold maxLen at hx hy
  obtain ⟨q, hq⟩ : ∃ q, ltb xs ys = q := ⟨_, rfl⟩
  rw [hq]
  have hq0 : ltb (xs.drop 0) (ys.drop 0) = q := hq
  clear hq
  go_enter Try.func34, Try.ntmps34
  go_wp2
  go_loopw [5] (fun i wr => ∃ k : Nat, k ≤ xs.length ∧ k ≤ ys.length ∧ i = .int .i64 k ∧ ltb (xs.drop k) (ys.drop k) = q ∧ ∃ n, wr = w.drewN n) (fun i _ => xs.length - (intOf i).toNat)
  case atStart => exact ⟨0, Nat.zero_le _, Nat.zero_le _, rfl, hq0, 0, rfl⟩
  case round =>
    obtain ⟨k, hk, hk2, rfl, ht, n, rfl⟩ := hrel
    have HT := Lib.hid ht
    clear ht hq0
    by_cases hlt : k < xs.length
    · by_cases hlt2 : k < ys.length
      · obtain ⟨b, o, x, hx1, rfl, hb1, hc1⟩ := ha.get hlt
        obtain ⟨b', o', y, hy1, rfl, hb2, hc2⟩ := hb.get hlt2
        have hs := ltb_drop hx1 hy1
        rw [HT.out] at hs
        have HS := Lib.hid hs
        clear hx1 hy1 hs
        by_cases hxy : x = y
        · subst hxy
          go_wp2
          go_quiet (fail)
          go_wp2
          go_roundw
          case rel => exact ⟨k + 1, by omega, by omega, by go_num, by rw [HS.out]; simp, _, rfl⟩
          case measure => simp [intOf]; omega
        · have hne : (x != y) = true := by simp [hxy]
          go_wp2
          go_quiet (fail)
          go_wp2
          go_quiet (fail)
          go_wp2
          go_ret
          refine ⟨?_, _, by rw [World.drewN_drewN, World.drewN_drewN]⟩
          rw [HS.out]
          simp [hxy]
      · go_wp2
        go_ret
        refine ⟨?_, _, rfl⟩
        rw [← HT.out, ltb_end (.inr (by omega)) hk hk2]
        simp
    · go_wp2
      go_ret
      refine ⟨?_, _, rfl⟩
      rw [← HT.out, ltb_end (.inl (by omega)) hk hk2]
      simp
theorem rOdd (kind : Int) {A1 A2 : Option Addr} {n1 c1 n2 c2 : Nat} (w : World) (x : Wr) (hk : x.kind = kind) (h1 : x.key.length = n1) (h2 : x.val.length = n2) :
    Calls Try.prog 22 #[.int .i64 kind, .slice A1 n1 c1, .slice A2 n2 c2] w fun e w' => e = .returned (.bool (!wrRight x)) ∧ w' = w := by
  have hr : (!wrRight x) = !(decide (0 < n1) && (decide (kind = 1) || (decide (kind = 2) && decide (n2 = 0)))) := by rw [wrRight, h1, h2, hk]
  rw [hr]
  clear hr hk h1 h2
  have g2 : (((n2 : Nat) : Int) == 0) = decide (n2 = 0) := by rw [Bool.eq_iff_iff]; simp
  have g1 : (((n1 : Nat) : Int) == 0) = decide (n1 = 0) := by rw [Bool.eq_iff_iff]; simp
  by_cases k2 : kind = 1
  · subst k2
    by_cases k1 : n1 = 0
    · subst k1
      go_enter Try.func22, Try.ntmps22
      go_wp2
      go_ret
      exact ⟨by simp, rfl⟩
    · have k1' : (((n1 : Nat) : Int) == 0) = false := by rw [beq_eq_false_iff_ne]; omega
      go_enter Try.func22, Try.ntmps22
      go_wp2
      go_ret
      exact ⟨by simp; omega, rfl⟩
  · have k2' : (kind == 1) = false := by simp [k2]
    have k2n : (kind != 1) = true := by simp [k2]
    by_cases k3 : kind = 2
    · subst k3
      by_cases k1 : n1 = 0
      · subst k1
        go_enter Try.func22, Try.ntmps22
        go_wp2
        go_ret
        exact ⟨by simp, rfl⟩
      · have k1' : (((n1 : Nat) : Int) == 0) = false := by rw [beq_eq_false_iff_ne]; omega
        by_cases k4 : n2 = 0
        · subst k4
          go_enter Try.func22, Try.ntmps22
          go_wp2
          go_ret
          exact ⟨by simp; omega, rfl⟩
        · have k4' : decide ((0 : Int) < (n2 : Int)) = true := by simp; omega
          go_enter Try.func22, Try.ntmps22
          go_wp2
          go_ret
          exact ⟨by simp [k4]; omega, rfl⟩
    · have k3' : (kind == 2) = false := by simp [k3]
      have k3n : (kind != 2) = true := by simp [k3]
      go_enter Try.func22, Try.ntmps22
      go_wp2
      go_ret
      exact ⟨by simp [k2, k3], rfl⟩
theorem rLong {A1 A2 : Option Addr} {n1 c1 n2 c2 : Nat} (w : World) (x : Wr) (h1 : x.key.length = n1) (h2 : x.val.length = n2) :
    Calls Try.prog 23 #[.slice A1 n1 c1, .slice A2 n2 c2] w fun e w' => e = .returned (.bool (!wrShort x)) ∧ w' = w := by
  have hr : (!wrShort x) = !(decide (n1 ≤ 4096) && decide (n2 ≤ 65536)) := by rw [wrShort, h1, h2]
  rw [hr]
  clear hr h1 h2
  by_cases k1 : n1 ≤ 4096
  · have k1' : decide ((4096 : Int) < (n1 : Int)) = false := by simp; omega
    by_cases k2 : n2 ≤ 65536
    · have k2' : decide ((65536 : Int) < (n2 : Int)) = false := by simp; omega
      go_enter Try.func23, Try.ntmps23
      go_wp2
      go_ret
      exact ⟨by simp [k1, k2], rfl⟩
    · have k2' : decide ((65536 : Int) < (n2 : Int)) = true := by simp; omega
      go_enter Try.func23, Try.ntmps23
      go_wp2
      go_ret
      exact ⟨by simp [k2], rfl⟩
  · have k1' : decide ((4096 : Int) < (n1 : Int)) = true := by simp; omega
    go_enter Try.func23, Try.ntmps23
    go_wp2
    go_ret
    exact ⟨by simp [k1], rfl⟩
theorem entCmp_ways (ka kb : List Int) (sa sb : Nat) : entCmp ka sa kb sb = if ltb ka kb = true then -1 else if ltb kb ka = true then 1 else if sb < sa then -1 else if sa < sb then 1 else 0 := by
  rw [entCmp]
  rcases cmpN_cases ka kb with ⟨e1, e2⟩ | ⟨e1, e2, e3⟩ | ⟨e1, e2, e3⟩
  · subst e2
    have h : ltb ka ka = false := by
      rcases cmpN_cases ka ka with ⟨-, -⟩ | ⟨f1, f2, f3⟩ | ⟨f1, f2, f3⟩
      · clear e1
        induction ka with
        | nil => rfl
        | cons x l ih => rw [ltb, ih]; simp
      · exact absurd rfl f3
      · exact f2
    rw [e1, if_neg (by simp), if_neg (by simp [h]), if_neg (by simp [h]), cmpI]
    by_cases h1 : sb < sa
    · rw [if_pos (by omega), if_pos h1]
    · rw [if_neg (by omega), if_neg h1]
      by_cases h2 : sa < sb
      · rw [if_pos (by omega), if_pos h2]
      · rw [if_neg (by omega), if_neg h2]
  · rw [e1, if_pos (by simp), if_pos e2]
  · rw [e1, if_pos (by simp), if_neg (by simp [e2])]
    have h : ltb kb ka = true := by
      have hn := cmpN_neg ka kb
      rw [e1] at hn
      rcases cmpN_cases kb ka with ⟨f1, f2⟩ | ⟨f1, f2, f3⟩ | ⟨f1, f2, f3⟩
      · exact absurd f2.symm e3
      · exact f2
      · rw [f1] at hn; cases hn
    rw [if_pos h]
theorem rCompare {A1 A2 A3 A4 : Option Addr} {n1 c1 n2 c2 n3 c3 n4 c4 sa sb B : Nat} {kinda kindb : Int} {ka kb : List Int} (w : World) (ha : Rb w B A1 ka) (hb : Rb w B A3 kb) (ma : ka.length ≤ maxLen) (mb : kb.length ≤ maxLen) (h1 : ka.length = n1) (h3 : kb.length = n3) (hB : B ≤ w.heap.size) :
    Calls Try.prog 21 #[enV A1 n1 c1 sa kinda A2 n2 c2, enV A3 n3 c3 sb kindb A4 n4 c4] w fun e w' => e = .returned (.int .i64 (entCmp ka sa kb sb)) ∧ Below w.heap.size w w' := by
  have bA := (Bk.new w 29 #[.slice A1 n1 c1, .int .u64 sa, .int .i64 kinda, .slice A2 n2 c2]).alloc (.cells #[.slice A3 n3 c3, .int .u64 sb, .int .i64 kindb, .slice A4 n4 c4] 29)
  have bB := Bk.new (w.alloc (.cells #[.slice A1 n1 c1, .int .u64 sa, .int .i64 kinda, .slice A2 n2 c2] 29)) 29 #[.slice A3 n3 c3, .int .u64 sb, .int .i64 kindb, .slice A4 n4 c4]
  rw [World.size_alloc] at bB
  have hb2 : Below w.heap.size w ((w.alloc (.cells #[.slice A1 n1 c1, .int .u64 sa, .int .i64 kinda, .slice A2 n2 c2] 29)).alloc (.cells #[.slice A3 n3 c3, .int .u64 sb, .int .i64 kindb, .slice A4 n4 c4] 29)) := ((Below.refl _ w).alloc (Nat.le_refl _) _).alloc (by simp) _
  obtain ⟨W, hW⟩ : ∃ W, (w.alloc (.cells #[.slice A1 n1 c1, .int .u64 sa, .int .i64 kinda, .slice A2 n2 c2] 29)).alloc (.cells #[.slice A3 n3 c3, .int .u64 sb, .int .i64 kindb, .slice A4 n4 c4] 29) = W := ⟨_, rfl⟩
  obtain ⟨g, hg⟩ : ∃ g, w.heap.size = g := ⟨_, rfl⟩
  rw [hW] at bA bB hb2
  have rA : Rb W B A1 ka := Rd.below ha (hb2.mono hB)
  have rB : Rb W B A3 kb := Rd.below hb (hb2.mono hB)
  rw [hg] at bA bB
  have e1 := entCmp_ways ka kb sa sb
  obtain ⟨r, hr⟩ : ∃ r, entCmp ka sa kb sb = r := ⟨_, rfl⟩
  obtain ⟨q1, hq1⟩ : ∃ q, ltb ka kb = q := ⟨_, rfl⟩
  obtain ⟨q2, hq2⟩ : ∃ q, ltb kb ka = q := ⟨_, rfl⟩
  have p1 := rBefore (c := c1) (c' := c3) W rA rB ma mb h1 h3
  have p2 := fun n => rBefore (c := c3) (c' := c1) (W.drewN n) (Rd.drewN rB n) (Rd.drewN rA n) mb ma h3 h1
  have ka0 : ∀ n, (W.drewN n).cell? ⟨g, 0, none⟩ = some (.slice A1 n1 c1) := fun n => bA.cell 0
  have ka1 : ∀ n, (W.drewN n).cell? ⟨g, 1, none⟩ = some (.int .u64 sa) := fun n => bA.cell 1
  have kb0 : ∀ n, (W.drewN n).cell? ⟨g + 1, 0, none⟩ = some (.slice A3 n3 c3) := fun n => bB.cell 0
  have kb1 : ∀ n, (W.drewN n).cell? ⟨g + 1, 1, none⟩ = some (.int .u64 sb) := fun n => bB.cell 1
  rw [hq1, hr, hq2] at e1
  rw [hq1] at p1
  rw [hq2] at p2
  rw [hr]
  have HW := Lib.hid hW
  have HG := Lib.hid hg
  have P1 := Lib.hid p1
  have P2 := Lib.hid p2
  have E1 := Lib.hid e1
  have HB2 := Lib.hid hb2
  have hb3 : ∀ n, Below w.heap.size w (W.drewN n) := fun n => below_drewN HB2.out n
  have HB3 := Lib.hid hb3
  clear hr hq1 hq2 p1 p2 e1 hW hg bA bB hb2 hb3 ha hb rA rB
  go_enter Try.func21, Try.ntmps21
  go_upto_region 1 with fail
  rw [HW.out, HG.out]
  have k00 : W.cell? ⟨g, 0, none⟩ = some (.slice A1 n1 c1) := ka0 0
  have k01 : W.cell? ⟨g + 1, 0, none⟩ = some (.slice A3 n3 c3) := kb0 0
  go_wp2_with fail
  refine P1.out.mono ?_
  rintro e w2 ⟨rfl, n, rfl⟩
  clear k00 k01
  have ka0n := ka0 n
  have ka1n := ka1 n
  have kb0n := kb0 n
  have kb1n := kb1 n
  cases q1 with
  | true =>
    go_wp2_with fail
    go_ret
    exact ⟨by rw [E1.out]; rfl, HB3.out n⟩
  | false =>
    go_wp2_with fail
    refine (P2.out n).mono ?_
    rintro e w3 ⟨rfl, m, rfl⟩
    rw [World.drewN_drewN]
    clear ka0n ka1n kb0n kb1n
    have ka0n := ka0 (n + m)
    have ka1n := ka1 (n + m)
    have kb0n := kb0 (n + m)
    have kb1n := kb1 (n + m)
    clear ka0 ka1 kb0 kb1
    obtain ⟨w3, hw3⟩ : ∃ w3, W.drewN (n + m) = w3 := ⟨_, rfl⟩
    have hb := HB3.out (n + m)
    rw [hw3] at ka0n ka1n kb0n kb1n hb ⊢
    cases q2 with
    | true =>
      go_wp2_with fail
      go_ret
      exact ⟨by rw [E1.out]; rfl, hb⟩
    | false =>
      have e1 := E1.out
      rw [if_neg (by simp), if_neg (by simp)] at e1
      by_cases h1 : sb < sa
      · have h1' : decide ((sb : Int) < (sa : Int)) = true := by simp; omega
        rw [if_pos h1] at e1
        subst e1
        go_wp2_with fail
        go_ret
        exact ⟨rfl, hb⟩
      · have h1' : decide ((sb : Int) < (sa : Int)) = false := by simp; omega
        rw [if_neg h1] at e1
        by_cases h2 : sa < sb
        · have h2' : decide ((sa : Int) < (sb : Int)) = true := by simp; omega
          rw [if_pos h2] at e1
          subst e1
          go_wp2_with fail
          go_ret
          exact ⟨rfl, hb⟩
        · have h2' : decide ((sa : Int) < (sb : Int)) = false := by simp; omega
          rw [if_neg h2] at e1
          subst e1
          go_wp2_with fail
          go_ret
          exact ⟨rfl, hb⟩
set_option maxRecDepth 100000 in
theorem rCheckEntry {A1 A2 : Option Addr} {c1 c2 n1 n2 : Nat} (x : En) (w : World) (h1 : x.key.length = n1) (h2 : x.val.length = n2) :
    Calls Try.prog 9 #[enV A1 n1 c1 x.seq x.kind A2 n2 c2] w fun e w' => e = .returned (.int .i64 (enChk x)) ∧ Below w.heap.size w w' := by
  obtain ⟨r, hr⟩ : ∃ r, enChk x = r := ⟨_, rfl⟩
  rw [hr]
  have hright := fun W => rOdd (A1 := A1) (A2 := A2) (c1 := c1) (c2 := c2) x.kind W ⟨x.kind, x.key, x.val⟩ rfl h1 h2
  have hlen := fun W => rLong (A1 := A1) (A2 := A2) (c1 := c1) (c2 := c2) W ⟨x.kind, x.key, x.val⟩ h1 h2
  unfold enChk at hr
  obtain ⟨q, hq⟩ : ∃ q, wrRight ⟨x.kind, x.key, x.val⟩ = q := ⟨_, rfl⟩
  obtain ⟨q2, hq2⟩ : ∃ q2, wrShort ⟨x.kind, x.key, x.val⟩ = q2 := ⟨_, rfl⟩
  obtain ⟨s, hs⟩ : ∃ s, x.seq = s := ⟨_, rfl⟩
  obtain ⟨kd, hkd⟩ : ∃ kd, x.kind = kd := ⟨_, rfl⟩
  rw [hq] at hright hr
  rw [hq2] at hlen hr
  rw [hs] at hr ⊢
  rw [hkd] at hright ⊢
  have hb0 : Below w.heap.size w (w.alloc (.cells #[.slice A1 n1 c1, .int .u64 s, .int .i64 kd, .slice A2 n2 c2] 29)) := (Below.refl _ w).alloc (Nat.le_refl _) _
  have HB := Lib.hid hb0
  have HR := Lib.hid hr
  have HRI := fun W => Lib.hid (hright W)
  have HLE := fun W => Lib.hid (hlen W)
  clear hq hq2 hs hkd hright hlen hr hb0 h1 h2
  cases q with
  | false =>
    have hr := HR.out
    rw [if_pos (.inl rfl)] at hr
    subst hr
    go_enter Try.func9, Try.ntmps9
    go_wp2_with (first | (go_at_call 22; refine (HRI _).out.mono ?_; rintro e w1 ⟨rfl, rfl⟩) | fail)
    go_ret
    exact ⟨rfl, HB.out⟩
  | true =>
    by_cases hs0 : s = 0
    · subst hs0
      have hr := HR.out
      rw [if_pos (.inr rfl)] at hr
      subst hr
      go_enter Try.func9, Try.ntmps9
      go_wp2_with (first | (go_at_call 22; refine (HRI _).out.mono ?_; rintro e w1 ⟨rfl, rfl⟩) | fail)
      go_ret
      exact ⟨rfl, HB.out⟩
    have hsb : (((s : Nat) : Int) == 0) = false := by rw [beq_eq_false_iff_ne]; omega
    have hr := HR.out
    rw [if_neg (by simp [hs0])] at hr
    have HR := Lib.hid hr
    clear hr
    cases q2 with
    | false =>
      have hr := HR.out
      rw [if_pos (.inl rfl)] at hr
      subst hr
      go_enter Try.func9, Try.ntmps9
      go_wp2_with (first | (go_at_call 22; refine (HRI _).out.mono ?_; rintro e w1 ⟨rfl, rfl⟩) | (go_at_call 23; refine (HLE _).out.mono ?_; rintro e w1 ⟨rfl, rfl⟩) | fail)
      go_ret
      exact ⟨rfl, HB.out⟩
    | true =>
      by_cases hs1 : 72057594037927935 < s
      · have hs1' : (72057594037927935 : Int) < (s : Int) := by omega
        have hr := HR.out
        rw [if_pos (.inr hs1)] at hr
        subst hr
        go_enter Try.func9, Try.ntmps9
        go_wp2_with (first | (go_at_call 22; refine (HRI _).out.mono ?_; rintro e w1 ⟨rfl, rfl⟩) | (go_at_call 23; refine (HLE _).out.mono ?_; rintro e w1 ⟨rfl, rfl⟩) | fail)
        go_ret
        exact ⟨rfl, HB.out⟩
      · have hs1' : decide ((72057594037927935 : Int) < (s : Int)) = false := by simp; omega
        have hr := HR.out
        rw [if_neg (by simp; omega)] at hr
        subst hr
        go_enter Try.func9, Try.ntmps9
        go_wp2_with (first | (go_at_call 22; refine (HRI _).out.mono ?_; rintro e w1 ⟨rfl, rfl⟩) | (go_at_call 23; refine (HLE _).out.mono ?_; rintro e w1 ⟨rfl, rfl⟩) | fail)
        go_ret
        exact ⟨rfl, HB.out⟩
end Go.Proofs.Ytleghbdkjdpilaa
