/- The statement DepsMerge: edges are merged in whatever order. The walk. -/
import Derived.Test.YthaiplhjekkooaaDeT
import Derived.Test.YthaiplhjekkooaaDeV
import Derived.Test.YthaiplhjekkooaaEdI
namespace Go.Proofs.Ythaiplhjekkooaa
open Go.RowKit

/-- All that the statement asks of edges, some of which may not be. -/
def MgLaw (a b c : List Ed) (p q : Nat) : Prop :=
  (edChk a ≠ 0 ∨ edChk b ≠ 0) ∧ mergeOut a b = ([], 2) ∧ mergeOut b a = ([], 2) ∨
  edChk a = 0 ∧ edChk b = 0 ∧ ∃ x m n o, mergeOut a b = (x, 0) ∧ mergeOut b a = (x, 0) ∧ edChk x = 0 ∧ x.length ≤ 160 ∧ tot x = tot a + tot b ∧ tot x ≤ 1000000000000000 ∧ betOut x p q = (m, 0) ∧ betOut a p q = (n, 0) ∧ betOut b p q = (o, 0) ∧
    tot m = tot n + tot o ∧ tot m ≤ 1000000000000000 ∧ edChk m = 0 ∧ m.length ≤ 160 ∧ n.length ≤ 160 ∧ o.length ≤ 160 ∧
    (edChk c ≠ 0 ∧ mergeOut x c = ([], 2) ∧ mergeOut b c = ([], 2) ∨
     edChk c = 0 ∧ ∃ r z, mergeOut x c = (r, 0) ∧ mergeOut b c = (z, 0) ∧ z.length ≤ 160 ∧ r.length ≤ 240 ∧ mergeOut a z = (r, 0))
def FewEd (l : List Ed) : Prop := l.length ≤ 80 ∧ ∀ e ∈ l, e.n ≤ 1099511627776
theorem FewEd.okl {l : List Ed} (h : FewEd l) (hc : edChk l = 0) : Okl l 90000000000000 := ⟨hc, by
  have h1 := tot_all h.2
  have h2 : l.length * 1099511627776 ≤ 80 * 1099511627776 := Nat.mul_le_mul_right _ h.1
  omega⟩
theorem mgLaw {a b c : List Ed} (p q : Nat) (ha : FewEd a) (hb : FewEd b) (hc : FewEd c) : MgLaw a b c p q := by
  by_cases h1 : edChk a = 0
  · by_cases h2 : edChk b = 0
    · right
      have oa := ha.okl h1
      have ob := hb.okl h2
      have la := ha.1
      have lb := hb.1
      have lc := hc.1
      obtain ⟨x, e1, e2, e3, e4, e5⟩ := merge_ok oa ob (by omega)
      obtain ⟨m, m1, m2, m3, m4⟩ := bet_ok (p := p) (q := q) e2 (by omega)
      obtain ⟨n, n1, n2, n3, n4⟩ := bet_ok (p := p) (q := q) oa (by omega)
      obtain ⟨o, o1, o2, o3, o4⟩ := bet_ok (p := p) (q := q) ob (by omega)
      have hx := e2.few
      have hm := m2.few
      refine ⟨h1, h2, x, m, n, o, e1, by rw [merge_comm oa ob (by omega), e1], e2.chk, by omega, e3 _, by omega, m1, n1, o1, by rw [m3, n3, o3, e3], by omega, m2.chk, by omega, by omega, by omega, ?_⟩
      by_cases h3 : edChk c = 0
      · right
        have oc := hc.okl h3
        obtain ⟨r, r1, -, -, -, r5⟩ := merge_ok e2 oc (by omega)
        obtain ⟨z, z1, -, -, -, z5⟩ := merge_ok ob oc (by omega)
        exact ⟨h3, r, z, r1, z1, by omega, by omega, by rw [merge_assoc oa ob oc (by omega) e1 z1, r1]⟩
      · exact .inl ⟨h3, mergeOut_r h3, mergeOut_r h3⟩
    · exact .inl ⟨.inr h2, mergeOut_r h2, mergeOut_l h2⟩
  · exact .inl ⟨.inl h1, mergeOut_l h1, mergeOut_r h1⟩
theorem edChk_ne {l : List Ed} (h : edChk l ≠ 0) : edChk l = 2 := (edChk_two l).resolve_left h
set_option maxRecDepth 100000 in
set_option maxHeartbeats 8000000 in
theorem depsMerge_walk (A1 : Option Addr) (n1 c1 : Nat) (a : List Ed) (A2 : Option Addr) (n2 c2 : Nat) (b : List Ed) (A3 : Option Addr) (n3 c3 : Nat) (c : List Ed) (p q : Int) (w : World) (ha : InEd w A1 n1 c1 a) (hb : InEd w A2 n2 c2 b) (hc : InEd w A3 n3 c3 c) (hp : (Lit.int .u64 p).wf = true) (hq : (Lit.int .u64 q).wf = true) :
    Calls Try.prog 5 #[.slice A1 n1 c1, .slice A2 n2 c2, .slice A3 n3 c3, .int .u64 p, .int .u64 q] w fun e w' => e = .returned (.bool true) ∧ Below w.heap.size w w' := by
  obtain ⟨p, rfl⟩ : ∃ k : Nat, p = (k : Int) := ⟨p.toNat, by have := (u64_of hp).1; omega⟩
  obtain ⟨q, rfl⟩ : ∃ k : Nat, q = (k : Int) := ⟨q.toNat, by have := (u64_of hq).1; omega⟩
  have HA := Lib.hid ha.rd
  have HB := Lib.hid hb.rd
  have HC := Lib.hid hc.rd
  have la := ha.len
  have lb := hb.len
  have lc := hc.len
  have ma := ha.max
  have mb := hb.max
  have mc := hc.max
  clear ha hb hc hp hq
  subst la lb lc
  go_enter Try.func5, Try.ntmps5
  go_upto_region 3 with (go_at_call 8; refine (deLives _).mono ?_; rintro e w1 ⟨rfl, hb1⟩)
  have cfa := lawFew (c := c1) a w1 (Rd.belowS HA.out hb1) rfl ma
  have cfb := lawFew (c := c2) b w1 (Rd.belowS HB.out hb1) rfl mb
  have cfc := lawFew (c := c3) c w1 (Rd.belowS HC.out hb1) rfl mc
  have CFA := Lib.hid cfa
  have CFB := Lib.hid cfb
  have CFC := Lib.hid cfc
  clear cfa cfb cfc
  go_wp2_with fail
  refine CFA.out.mono ?_
  rintro e w' ⟨qa, rfl, rfl, hqa⟩
  cases qa with
  | false =>
    go_wp2_with fail
    go_ret
    exact ⟨rfl, hb1⟩
  | true =>
  go_wp2_with fail
  refine CFB.out.mono ?_
  rintro e w'' ⟨qb, rfl, rfl, hqb⟩
  cases qb with
  | false =>
    go_wp2_with fail
    go_ret
    exact ⟨rfl, hb1⟩
  | true =>
  go_wp2_with fail
  refine CFC.out.mono ?_
  rintro e w''' ⟨qc, rfl, rfl, hqc⟩
  cases qc with
  | false =>
    go_wp2_with fail
    go_ret
    exact ⟨rfl, hb1⟩
  | true =>
  have hl := mgLaw (a := a) (b := b) (c := c) p q (hqa trivial) (hqb trivial) (hqc rfl)
  have sa := (hqa trivial).1
  have sb := (hqb trivial).1
  have sc := (hqc rfl).1
  obtain ⟨w1, rfl⟩ : ∃ k, k = w''' := ⟨_, rfl⟩
  clear hqa hqb hqc CFA CFB CFC
  have ra1 := Rd.belowS HA.out hb1
  have rb1 := Rd.belowS HB.out hb1
  have cm1 := deMerge (c1 := c1) (c2 := c2) a b w1 ra1 rb1 rfl rfl (Nat.le_refl _) (by omega) (by omega)
  rcases hl with ⟨hbad, e1, e2⟩ | ⟨h1, h2, x, m, n, o, e1, e2, hx, lx, tx, sx, m1, n1, o1, tm, sm, hm, lm, ln, lo, hl⟩
  · rw [e1] at cm1
    clear ra1 rb1
    go_wp2_with fail
    refine cm1.mono ?_
    rintro e w2 ⟨A4, c4, rfl, -, hb2⟩
    have hb02 := hb1.trans (hb2.mono hb1.size)
    have cm2 := deMerge (c1 := c2) (c2 := c1) b a w2 (Rd.belowS HB.out hb02) (Rd.belowS HA.out hb02) rfl rfl (Nat.le_refl _) (by omega) (by omega)
    rw [e2] at cm2
    clear cm1 hb1 hb2
    go_wp2_with fail
    refine cm2.mono ?_
    rintro e w3 ⟨A5, c5, rfl, -, hb3⟩
    have hb03 := hb02.trans (hb3.mono hb02.size)
    clear cm2 hb02 hb3
    have ck1 := deCheck (c := c1) a w3 (Rd.belowS HA.out hb03) rfl (Nat.le_refl _) ma
    by_cases h1 : edChk a = 0
    · have h2 := edChk_ne (hbad.resolve_left (by simp [h1]))
      rw [h1] at ck1
      go_wp2_with fail
      refine ck1.mono ?_
      rintro e w4 ⟨rfl, hb4⟩
      have hb04 := hb03.trans (hb4.mono hb03.size)
      have ck2 := deCheck (c := c2) b w4 (Rd.belowS HB.out hb04) rfl (Nat.le_refl _) mb
      rw [h2] at ck2
      go_wp2_with fail
      refine ck2.mono ?_
      rintro e w5 ⟨rfl, hb5⟩
      go_wp2_with fail
      go_ret
      exact ⟨rfl, hb04.trans (hb5.mono hb04.size)⟩
    · rw [edChk_ne h1] at ck1
      go_wp2_with fail
      refine ck1.mono ?_
      rintro e w4 ⟨rfl, hb4⟩
      go_wp2_with fail
      go_ret
      exact ⟨rfl, hb03.trans (hb4.mono hb03.size)⟩
  · rw [e1] at cm1
    clear ra1 rb1
    go_wp2_with fail
    refine cm1.mono ?_
    rintro e w2 ⟨A4, c4, rfl, own2, hb2⟩
    have hb02 := hb1.trans (hb2.mono hb1.size)
    have rx2 : RbD w2 w2.heap.size A4 x := Rd.of_own own2
    have cm2 := deMerge (c1 := c2) (c2 := c1) b a w2 (Rd.belowS HB.out hb02) (Rd.belowS HA.out hb02) rfl rfl (Nat.le_refl _) (by omega) (by omega)
    rw [e2] at cm2
    clear cm1 hb1 hb2 own2
    go_wp2_with fail
    refine cm2.mono ?_
    rintro e w3 ⟨A5, c5, rfl, own3, hb3⟩
    have hb03 := hb02.trans (hb3.mono hb02.size)
    have rx3 := Rd.belowS rx2 hb3
    have ry3 : RbD w3 w3.heap.size A5 x := Rd.of_own own3
    have cs := kitSameEds (c := c4) (c' := c5) x x w3 rx3 ry3 rfl rfl (by omega)
    rw [decide_eq_true rfl] at cs
    clear cm2 hb02 hb3 own3 rx2
    have CS := Lib.hid cs
    clear cs ry3
    go_wp2_with fail
    refine CS.out.mono ?_
    rintro e w4 ⟨rfl, d4, rfl⟩
    have hb04 := below_drewN hb03 d4
    have rx4 := Rd.belowS rx3 (below_drewN (Below.refl _ _) d4)
    obtain ⟨w4, hw4⟩ : ∃ w4, w3.drewN d4 = w4 := ⟨_, rfl⟩
    rw [hw4] at hb04 rx4 ⊢
    have ck := deCheck (c := c4) x w4 rx4 rfl (Nat.le_refl _) (by omega)
    rw [hx] at ck
    clear CS hb03 rx3 hw4
    go_wp2_with fail
    refine ck.mono ?_
    rintro e w5 ⟨rfl, hb5⟩
    have hb05 := hb04.trans (hb5.mono hb04.size)
    have rx5 := Rd.belowS rx4 hb5
    have ra5 := Rd.belowS HA.out hb05
    have rb5 := Rd.belowS HB.out hb05
    have k1 := lawCalls (c := c4) x w5 rx5 rfl (by omega) (by omega)
    have k2 := lawCalls (c := c1) a w5 ra5 rfl (by omega) (by omega)
    have k3 := lawCalls (c := c2) b w5 rb5 rfl (by omega) (by omega)
    have hw1 : IntKind.u64.wrap ((tot a : Int) + (tot b : Int)) = (tot x : Int) := by
      rw [tx, show (tot a : Int) + (tot b : Int) = ((tot a + tot b : Nat) : Int) from by omega]
      exact IntWalk.u64_in _ ⟨by omega, by omega⟩
    obtain ⟨tax, htax⟩ : ∃ t, tot x = t := ⟨_, rfl⟩
    obtain ⟨taa, htaa⟩ : ∃ t, tot a = t := ⟨_, rfl⟩
    obtain ⟨tab, htab⟩ : ∃ t, tot b = t := ⟨_, rfl⟩
    rw [htax] at k1 hw1
    rw [htaa] at k2 hw1
    rw [htab] at k3 hw1
    have K1 := Lib.hid k1
    have K2 := Lib.hid k2
    have K3 := Lib.hid k3
    clear k1 k2 k3 htax htaa htab hb04 hb5 rx4 ck tx sx
    go_wp2_with fail
    refine K1.out.mono ?_
    rintro e w' ⟨rfl, hw'⟩
    rw [hw']
    clear hw'
    go_wp2_with fail
    refine K2.out.mono ?_
    rintro e w' ⟨rfl, hw'⟩
    rw [hw']
    clear hw'
    go_wp2_with fail
    refine K3.out.mono ?_
    rintro e w' ⟨rfl, hw'⟩
    rw [hw']
    clear hw'
    have cb1 := deBetween (c := c4) x p q w5 rx5 rfl (Nat.le_refl _) (by omega)
    rw [m1] at cb1
    clear K1 K2 K3
    go_wp2_with fail
    clear hw1
    refine cb1.mono ?_
    rintro e w6 ⟨A6, c6, rfl, own6, hb6⟩
    have hb06 := hb05.trans (hb6.mono hb05.size)
    have rx6 := Rd.belowS rx5 hb6
    have rm6 : RbD w6 w6.heap.size A6 m := Rd.of_own own6
    have cb2 := deBetween (c := c1) a p q w6 (Rd.belowS HA.out hb06) rfl (Nat.le_refl _) (by omega)
    rw [n1] at cb2
    clear cb1 own6 hb6 hb05 rx5 ra5 rb5
    go_wp2_with fail
    refine cb2.mono ?_
    rintro e w7 ⟨A7, c7, rfl, own7, hb7⟩
    have hb07 := hb06.trans (hb7.mono hb06.size)
    have rx7 := Rd.belowS rx6 hb7
    have rm7 := Rd.belowS rm6 hb7
    have rn7 : RbD w7 w7.heap.size A7 n := Rd.of_own own7
    have cb3 := deBetween (c := c2) b p q w7 (Rd.belowS HB.out hb07) rfl (Nat.le_refl _) (by omega)
    rw [o1] at cb3
    clear cb2 own7 hb7 hb06 rx6 rm6
    go_wp2_with fail
    refine cb3.mono ?_
    rintro e w8 ⟨A8, c8, rfl, own8, hb8⟩
    have hb08 := hb07.trans (hb8.mono hb07.size)
    have rx8 := Rd.belowS rx7 hb8
    have rm8 := Rd.belowS rm7 hb8
    have rn8 := Rd.belowS rn7 hb8
    have ro8 : RbD w8 w8.heap.size A8 o := Rd.of_own own8
    have k1 := lawCalls (c := c6) m w8 rm8 rfl (by omega) (by omega)
    have k2 := lawCalls (c := c7) n w8 rn8 rfl (by omega) (by omega)
    have k3 := lawCalls (c := c8) o w8 ro8 rfl (by omega) (by omega)
    have hw1 : IntKind.u64.wrap ((tot n : Int) + (tot o : Int)) = (tot m : Int) := by
      rw [tm, show (tot n : Int) + (tot o : Int) = ((tot n + tot o : Nat) : Int) from by omega]
      exact IntWalk.u64_in _ ⟨by omega, by omega⟩
    obtain ⟨tax, htax⟩ : ∃ t, tot m = t := ⟨_, rfl⟩
    obtain ⟨taa, htaa⟩ : ∃ t, tot n = t := ⟨_, rfl⟩
    obtain ⟨tab, htab⟩ : ∃ t, tot o = t := ⟨_, rfl⟩
    rw [htax] at k1 hw1
    rw [htaa] at k2 hw1
    rw [htab] at k3 hw1
    have ck := deCheck (c := c6) m w8 rm8 rfl (Nat.le_refl _) (by omega)
    rw [hm] at ck
    have K1 := Lib.hid k1
    have K2 := Lib.hid k2
    have K3 := Lib.hid k3
    have CK := Lib.hid ck
    clear k1 k2 k3 htax htaa htab ck tm sm cb3 own8 hb8 hb07 rx7 rm7 rn7
    go_wp2_with fail
    refine K1.out.mono ?_
    rintro e w' ⟨rfl, hw'⟩
    rw [hw']
    clear hw'
    go_wp2_with fail
    refine K2.out.mono ?_
    rintro e w' ⟨rfl, hw'⟩
    rw [hw']
    clear hw'
    go_wp2_with fail
    refine K3.out.mono ?_
    rintro e w' ⟨rfl, hw'⟩
    rw [hw']
    clear hw'
    go_wp2_with fail
    clear hw1
    refine CK.out.mono ?_
    rintro e w9 ⟨rfl, hb9⟩
    have hb09 := hb08.trans (hb9.mono hb08.size)
    have rx9 := Rd.belowS rx8 hb9
    clear K1 K2 K3 CK rx8 rm8 rn8 ro8 hb08 hb9
    have cm3 := deMerge (c1 := c4) (c2 := c3) x c w9 rx9 (Rd.belowS HC.out hb09) rfl rfl (Nat.le_refl _) (by omega) (by omega)
    rcases hl with ⟨h3, e3, e4⟩ | ⟨h3, r, z, e3, e4, lz, lr, e5⟩
    · rw [e3] at cm3
      go_wp2_with fail
      refine cm3.mono ?_
      rintro e w10 ⟨A10, c10, rfl, -, hb10⟩
      have hb010 := hb09.trans (hb10.mono hb09.size)
      have cm4 := deMerge (c1 := c2) (c2 := c3) b c w10 (Rd.belowS HB.out hb010) (Rd.belowS HC.out hb010) rfl rfl (Nat.le_refl _) (by omega) (by omega)
      rw [e4] at cm4
      clear cm3 rx9 hb09 hb10
      go_wp2_with fail
      refine cm4.mono ?_
      rintro e w11 ⟨A11, c11, rfl, -, hb11⟩
      have hb011 := hb010.trans (hb11.mono hb010.size)
      have ck := deCheck (c := c3) c w11 (Rd.belowS HC.out hb011) rfl (Nat.le_refl _) (by omega)
      rw [edChk_ne h3] at ck
      clear cm4 hb010 hb11
      go_wp2_with fail
      refine ck.mono ?_
      rintro e w12 ⟨rfl, hb12⟩
      go_wp2_with fail
      go_ret
      exact ⟨rfl, hb011.trans (hb12.mono hb011.size)⟩
    · rw [e3] at cm3
      go_wp2_with fail
      refine cm3.mono ?_
      rintro e w10 ⟨A10, c10, rfl, own10, hb10⟩
      have hb010 := hb09.trans (hb10.mono hb09.size)
      have rr10 : RbD w10 w10.heap.size A10 r := Rd.of_own own10
      have cm4 := deMerge (c1 := c2) (c2 := c3) b c w10 (Rd.belowS HB.out hb010) (Rd.belowS HC.out hb010) rfl rfl (Nat.le_refl _) (by omega) (by omega)
      rw [e4] at cm4
      clear cm3 rx9 hb09 hb10 own10
      go_wp2_with fail
      refine cm4.mono ?_
      rintro e w11 ⟨A11, c11, rfl, own11, hb11⟩
      have hb011 := hb010.trans (hb11.mono hb010.size)
      have rr11 := Rd.belowS rr10 hb11
      have rz11 : RbD w11 w11.heap.size A11 z := Rd.of_own own11
      have cm5 := deMerge (c1 := c1) (c2 := c11) a z w11 (Rd.belowS HA.out hb011) rz11 rfl rfl (Nat.le_refl _) (by omega) (by omega)
      rw [e5] at cm5
      clear cm4 hb010 hb11 own11 rr10
      go_wp2_with fail
      refine cm5.mono ?_
      rintro e w12 ⟨A12, c12, rfl, own12, hb12⟩
      have hb012 := hb011.trans (hb12.mono hb011.size)
      have rr12 := Rd.belowS rr11 hb12
      have rq12 : RbD w12 w12.heap.size A12 r := Rd.of_own own12
      have cs := kitSameEds (c := c10) (c' := c12) r r w12 rr12 rq12 rfl rfl (by omega)
      rw [decide_eq_true rfl] at cs
      have CS := Lib.hid cs
      clear cs cm5 hb011 hb12 own12 rr11 rr12 rq12 rz11
      go_wp2_with fail
      refine CS.out.mono ?_
      rintro e w13 ⟨rfl, d, rfl⟩
      go_wp2_with fail
      go_ret
      exact ⟨rfl, below_drewN hb012 d⟩
end Go.Proofs.Ythaiplhjekkooaa
