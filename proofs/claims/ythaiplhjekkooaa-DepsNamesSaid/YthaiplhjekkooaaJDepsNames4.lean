/- Texts of the proof of DepsNamesSaid, joined: DeD AdP RaU RaA AeP SpC SpK SrA. -/
import Derived.Deep.RegionWith
import Derived.StillTailTactics
import Derived.Test.YthaiplhjekkooaaJDepsNames3
import Derived.Laws.Rows
import Derived.Laws.Tables
import Derived.Test.YthaiplhjekkooaaJDepsNames1
import Derived.Test.YthaiplhjekkooaaJDepsNames2
/- Edges: the document's add. -/
namespace Go.Proofs.Ythaiplhjekkooaa
open Go.RowKit
theorem loadEd_shutD (a : Addr) : loadVar 47 a = loadK 47 a := rfl
attribute [local go_sem ↓] loadEd_shutD
attribute [local go_sem ↓] appK_shut
attribute [local go_sem ↓] sliced_s
attribute [local go_sem ↓ high] sliced_s0

theorem flatR_setD {α : Type} {f : α → List Value} {k : Nat} (hf : ∀ x, (f x).length = k) {x x' : α} {j : Nat} {u : Value} (hj : j < k) (hx : f x' = (f x).set j u) :
    ∀ {l : List α} {i : Nat}, l[i]? = some x → (flatR f l).set (i * k + j) u = flatR f (l.set i x')
  | [], i, h => by simp at h
  | a :: l, 0, h => by
    simp at h
    subst h
    have e : flatR f (a :: l) = f a ++ flatR f l := rfl
    have e2 : flatR f ((a :: l).set 0 x') = f x' ++ flatR f l := rfl
    rw [e, e2, hx, Nat.zero_mul, Nat.zero_add, List.set_append_left _ _ (by rw [hf]; exact hj)]
  | a :: l, i + 1, h => by
    have ih := flatR_setD hf hj hx (l := l) (i := i) (by simpa using h)
    have e : flatR f (a :: l) = f a ++ flatR f l := rfl
    have e2 : flatR f ((a :: l).set (i + 1) x') = f a ++ flatR f (l.set i x') := rfl
    have hk : (i + 1) * k = i * k + k := Nat.succ_mul _ _
    rw [e, e2, ← ih, List.set_append_right _ _ (by rw [hf]; omega), hf, show (i + 1) * k + j - k = i * k + j from by omega]
set_option maxRecDepth 100000 in
set_option maxHeartbeats 4000000 in
theorem rDeAdd {base n c : Nat} {A : Option Addr} (l : List Ed) (x : Ed) (w : World) (hown : w.ownsRow base 47 4 (.slice A n c) n (eds l)) (hl : l.length = n) (hnl : n ≤ 100000) (hbase : base ≤ w.heap.size) (hx : x.n < 18446744073709551616) (hy : ∀ y ∈ l, y.n < 18446744073709551616) :
    Calls Try.prog 38 #[.slice A n c, edV x] w (AddPost base w (addE x l)) := by
  have hal : Below w.heap.size w (w.alloc (.cells (edA x) 47)) := (Below.refl _ w).alloc (Nat.le_refl _) _
  have bk := Bk.new w 47 (edA x)
  obtain ⟨w1, hw1⟩ : ∃ w1, w.alloc (.cells (edA x) 47) = w1 := ⟨_, rfl⟩
  obtain ⟨g, hg⟩ : ∃ g, w.heap.size = g := ⟨_, rfl⟩
  rw [hw1] at hal bk
  rw [hg] at bk
  have hgo : (Value.slice A n c).ownBlock ≠ some g := fun e => by have := (own_ltD hown g e).1; omega
  have own1 := ((App.refl hown).later hal).own
  have hcap : n ≤ c := by
    rcases hown.2 with ⟨h1, h2⟩ | ⟨q, cap, cur, h1, _, _, h3, _⟩
    · omega
    · injection h1 with _ _ h5
      omega
  obtain ⟨R, hR⟩ : ∃ R, addE x l = R := ⟨_, rfl⟩
  rw [hR]
  have HW := Lib.hid hw1
  have HG := Lib.hid hg
  have HR := Lib.hid hR
  have HN := Lib.hid hl
  have HAL := Lib.hid hal
  have HY := Lib.hid hy
  have hbg : base ≤ g := by omega
  clear hw1 hg hR hl hal hown hy
  go_enter Try.func38, Try.ntmps38
  go_upto_region 1 with fail
  rw [HW.out, HG.out]
  go_wp2_with fail
  go_loopw [6] (fun i_ wr => ∃ k : Nat, k ≤ n ∧ i_ = .int .i64 k ∧ Hid (∀ a ∈ l.take k, edLt a x = true) ∧ Below w1.heap.size w1 wr) (fun i_ _ => n - (intOf i_).toNat)
  case atStart => exact ⟨0, by omega, rfl, Lib.hid (fun a ha => by simp at ha), Below.refl _ _⟩
  case round =>
    obtain ⟨k, hk, rfl, HALL, hbr⟩ := hrel
    by_cases hlt : k < n
    · have hlt' : (k : Int) < (n : Int) := by omega
      obtain ⟨a, ha⟩ : ∃ a, l[k]? = some a := ⟨_, List.getElem?_eq_getElem (by rw [HN.out]; exact hlt)⟩
      have hbd := below_drewN hbr 1
      have ownd := ((App.refl own1).later hbd).own
      have hA : ∃ ga, A = some ⟨ga, 0, none⟩ := by
        rcases own1.2 with ⟨-, h0⟩ | ⟨q, cap, cur, h1, -⟩
        · omega
        · injection h1 with h2
          exact ⟨q, h2⟩
      obtain ⟨ga, rfl⟩ := hA
      have HL : Hid (∀ W, Below w1.heap.size w1 W → (loadK 47 ⟨ga, k * 4, none⟩).run Try.prog W = .ok (edV a) W ∧ (loadK 47 ⟨g, 0, none⟩).run Try.prog W = .ok (edV x) W) := Lib.hid fun W hW => by
        obtain ⟨b', o', e', -, hc'⟩ := RbD.at (Rd.of_own ((App.refl own1).later hW).own) ha
        cases e'
        have h1 := loadK_ed hc'
        rw [Nat.zero_add] at h1
        exact ⟨h1, loadK_edB (bk.below hW bk.lt)⟩
      obtain ⟨la, lx⟩ := HL.out _ hbd
      have hcb := rDeBefore a x wr.drew
      obtain ⟨r, hr⟩ : ∃ r, edLt a x = r := ⟨_, rfl⟩
      rw [hr] at hcb
      have HRR := Lib.hid hr
      have HC := Lib.hid hcb
      have HA := Lib.hid ha
      clear hr hcb ha ownd
      go_wp2_with fail
      go_region_held3 (fun w' => (loadK 47 ⟨ga, k * 4, none⟩).run Try.prog w' = .ok (edV a) w' ∧ (loadK 47 ⟨g, 0, none⟩).run Try.prog w' = .ok (edV x) w')
        (first | exact ⟨la, lx⟩ | exact ⟨la3, lx3⟩)
        (first
          | (go_at_call 48
             refine HC.out.mono ?_
             rintro en w3 ⟨rfl, hb3⟩
             have hb03 := hbd.trans (hb3.mono hbd.size)
             obtain ⟨la3, lx3⟩ := HL.out _ hb03)
          | fail)
      cases r with
      | true =>
        go_wp2_with fail
        exact ⟨⟨k + 1, by omega, by go_num, Lib.hid (fun b hb => by
          rw [take_snoc HA.out] at hb
          rcases List.mem_append.1 hb with hb | hb
          · exact HALL.out b hb
          · rw [List.mem_singleton.1 hb, HRR.out]), hb03⟩, by simp only [intOf]; omega⟩
      | false =>
        have hps : addPos x l = k := addPos_at (by rw [HN.out]; exact hk) HALL.out (fun b hb => by
          rw [HA.out] at hb
          cases hb
          exact HRR.out)
        have HPS := Lib.hid hps
        clear hps la lx la3 lx3 HC hbd hb3 hbr HALL HRR
        obtain ⟨wQ, hwQ⟩ : ∃ wQ, wQ = w3 := ⟨_, rfl⟩
        subst hwQ
        have hbd := below_drewN hb03 1
        obtain ⟨la, lx⟩ := HL.out _ hbd
        have hcb := rDeBefore x a wQ.drew
        obtain ⟨r2, hr2⟩ : ∃ r, edLt x a = r := ⟨_, rfl⟩
        rw [hr2] at hcb
        have HR2 := Lib.hid hr2
        have HC := Lib.hid hcb
        clear hr2 hcb
        go_wp2_with fail
        go_region_held3 (fun w' => (loadK 47 ⟨ga, k * 4, none⟩).run Try.prog w' = .ok (edV a) w' ∧ (loadK 47 ⟨g, 0, none⟩).run Try.prog w' = .ok (edV x) w')
          (first | exact ⟨la, lx⟩ | exact ⟨la3, lx3⟩)
          (first
            | (go_at_call 48
               refine HC.out.mono ?_
               rintro en w4 ⟨rfl, hb4⟩
               have hb04 := hbd.trans (hb4.mono hbd.size)
               obtain ⟨la3, lx3⟩ := HL.out _ hb04)
            | fail)
        clear la lx la3 lx3 HC hbd hb4 hb03
        cases r2 with
        | true =>
          have hRR : R = (l.take k ++ x :: l.drop k, decide (x.n ≤ 4611686018427387904)) := by
            rw [← HR.out, addE, HPS.out, HA.out]
            simp only [HR2.out, if_true]
          have HRR := Lib.hid hRR
          clear hRR HPS HA HR HR2 HL
          obtain ⟨WX, hWX⟩ : ∃ WX, WX = w4 := ⟨_, rfl⟩
          subst hWX
          have HBW := Lib.hid hb04
          clear hb04
          have hrbW := Rd.of_own ((App.refl own1).later HBW.out).own
          have hkc : (k : Int) ≤ (c : Int) := by omega
          have hkn : (k : Int) ≤ (n : Int) := by omega
          have hbs : base ≤ WX.heap.size := by have h1 := HAL.out.size; have h2 := HBW.out.size; omega
          go_wp2_with (at_builtin; go_loud (refine wpList_appD _ rfl (.tmp 63) (.tmp 66) rfl WX.heap.size _ 0 [] rfl (World.ownsRow_lit WX #[] 0 (Nat.le_refl _) (by simp [maxLen]) rfl) WX.heap.size _ (n - k) _ (l.drop k) rfl (by rw [List.length_drop, HN.out]) (Rd.alloc (RbD.drop (cap := c) hrbW (by rw [HN.out]; exact hcap)) (Nat.le_refl _) _) (by omega) (by simp) ?_))
          intro A3 c3 w3 hap _
          have hap1 := hap.fresh1
          have hb3 := hap1.below0
          have hlo := hap1.lo
          have hb13 := HBW.out.trans (hb3.mono HBW.out.size)
          have hb13d := below_drewN hb13 1
          have ownD := ((App.refl own1).later hb13d).own
          have bkD := bk.below hb13d bk.lt
          have hne3 : ∀ q, A3 = some q → (Value.slice (some ⟨ga, 0, none⟩) n c).ownBlock ≠ some q.block := fun q hq e1 => by
            have h1 := (own_ltD own1 _ e1).1
            have h2 := (hlo q hq).1
            have h3 := HBW.out.size
            omega
          obtain ⟨A5, c5, w5, A6, c6, w6, hrun5, hrun6, hown6, hb6, hkp⟩ := insRowD (e := x) (w3.drewN 1) ownD HN.out hk hnl hap1.drew.own hne3 (Nat.le_trans hbs hb3.size)
          have hkg := hkp g (by have := bkD.lt; exact this) hgo
          have F4 : (loadK 47 ⟨g, 0, none⟩).run Try.prog w3.drew = .ok (edV x) w3.drew ∧ w3.drew.cell? ⟨g, 3, none⟩ = some (.int .u64 x.n) := ⟨loadK_edB bkD, bkD.cell 3⟩
          have FA : Hid (∀ ob, (loadK 47 ⟨g, 0, none⟩).run Try.prog (w3.alloc ob).drew = .ok (edV x) (w3.alloc ob).drew ∧ (w3.alloc ob).drew.cell? ⟨g, 3, none⟩ = some (.int .u64 x.n)) := Lib.hid fun ob => by
            have hq : Bk (w3.alloc ob).drew g 47 (edA x) := bkD.alloc ob
            exact ⟨loadK_edB hq, hq.cell 3⟩
          have bk5 : Bk w5 g 47 (edA x) := hkg.1.trans bkD
          have bk6 : Bk w6 g 47 (edA x) := hkg.2.trans bkD
          have F5 : (loadK 47 ⟨g, 0, none⟩).run Try.prog w5 = .ok (edV x) w5 ∧ w5.cell? ⟨g, 3, none⟩ = some (.int .u64 x.n) := ⟨loadK_edB bk5, bk5.cell 3⟩
          have F6 : (loadK 47 ⟨g, 0, none⟩).run Try.prog w6 = .ok (edV x) w6 ∧ w6.cell? ⟨g, 3, none⟩ = some (.int .u64 x.n) := ⟨loadK_edB bk6, bk6.cell 3⟩
          have hrun5' : (appK #[25, 25] 25 #[.slice (some ⟨ga, 0, none⟩) k c, .slice (some ⟨w3.heap.size, 0, none⟩) 1 1]).run Try.prog (w3.alloc (.cells (edA x) 47)).drew = .ok (.slice A5 (k + 1) c5) w5 := hrun5
          have HO6 := Lib.hid hown6
          have HB6 := Lib.hid hb6
          have HB13 := Lib.hid hb13d
          clear hkp hkg hown6 hb6 bk5 bk6 hap hap1 hb3 hlo ownD bkD hne3 hrbW hrun5 hb13 hb13d
          go_wp2_with fail
          go_region_held3 (fun w' => (loadK 47 ⟨g, 0, none⟩).run Try.prog w' = .ok (edV x) w' ∧ w'.cell? ⟨g, 3, none⟩ = some (.int .u64 x.n))
            (first | exact F4 | exact FA.out _ | exact F5 | exact F6) (fail)
          all_goals go_wp2_with fail
          all_goals go_ret2
          all_goals
            rw [HRR.out]
            have hbb : Below base w w6 := (HAL.out.mono (by omega)).trans ((HB13.out.mono (by have := HAL.out.size; omega)).trans HB6.out)
            have hdn : decide ((x.n : Int) ≤ 4611686018427387904) = decide (x.n ≤ 4611686018427387904) := by
              by_cases h : x.n ≤ 4611686018427387904
              · rw [decide_eq_true h, decide_eq_true (show (x.n : Int) ≤ 4611686018427387904 by omega)]
              · rw [decide_eq_false h, decide_eq_false (show ¬ (x.n : Int) ≤ 4611686018427387904 by omega)]
            exact ⟨A6, c6, n + 1, (by rw [← hdn]; rfl), by simp only [List.length_append, List.length_cons, List.length_take, List.length_drop, HN.out]; omega, HO6.out, hbb⟩
        | false =>
          have hc3a : ∀ W, Below w1.heap.size w1 W → W.cell? ⟨ga, k * 4 + 3, none⟩ = some (.int .u64 a.n) ∧ W.cell? ⟨g, 3, none⟩ = some (.int .u64 x.n) ∧ W.frozen? ⟨ga, k * 4 + 3, none⟩ = false := fun W hW => by
            have ow := ((App.refl own1).later hW).own
            obtain ⟨b', o', e', -, hc'⟩ := RbD.at (Rd.of_own ow) HA.out
            cases e'
            have h1 := hc' 3 (by omega)
            rw [Nat.zero_add] at h1
            exact ⟨h1, (bk.below hW bk.lt).cell 3, ow.frozenAt _⟩
          have HC3 := Lib.hid hc3a
          have han := HY.out a (List.mem_of_getElem? HA.out)
          obtain ⟨na, hna⟩ : ∃ na, a.n = na := ⟨_, rfl⟩
          obtain ⟨nx, hnx⟩ : ∃ nx, x.n = nx := ⟨_, rfl⟩
          obtain ⟨ca, cx, fa⟩ := HC3.out w4 hb04
          rw [hna] at ca han
          rw [hnx] at cx hx
          have hRR : R = if 4611686018427387904 < nx ∨ 4611686018427387904 - nx < na then (l, false) else (l.set k ⟨a.b, a.f, a.t, na + nx⟩, true) := by
            rw [← HR.out, addE, HPS.out, HA.out]
            simp only [HR2.out, Bool.false_eq_true, if_false, hna, hnx]
          have HRR := Lib.hid hRR
          have HNA := Lib.hid hna
          have HNX := Lib.hid hnx
          clear hRR HPS HR HR2 HL hc3a hna hnx
          by_cases h1 : 4611686018427387904 < nx
          · have d1 : decide ((4611686018427387904 : Int) < (nx : Int)) = true := by simp; omega
            have d1' : (4611686018427387904 : Int) < (nx : Int) := by omega
            have hre := HRR.out
            rw [if_pos (.inl h1)] at hre
            subst hre
            go_wp2_with fail
            go_quiet (fail)
            go_wp2_with fail
            go_ret2
            have hbq := below_drewN hb04 nq
            exact ⟨some ⟨ga, 0, none⟩, c, n, rfl, HN.out, ((App.refl own1).later hbq).own, (HAL.out.mono (by omega)).trans (hbq.mono (by have := HAL.out.size; omega))⟩
          have d1 : decide ((4611686018427387904 : Int) < (nx : Int)) = false := by simp; omega
          have d1' : ¬ (4611686018427387904 : Int) < (nx : Int) := by omega
          obtain ⟨mx, hmx⟩ : ∃ mx, 4611686018427387904 - nx = mx := ⟨_, rfl⟩
          have hw1 : IntKind.u64.wrap (4611686018427387904 - (nx : Int)) = (mx : Int) := by
            rw [show (4611686018427387904 : Int) - (nx : Int) = (mx : Int) from by omega]
            exact IntWalk.u64_in _ ⟨by omega, by omega⟩
          rw [hmx] at HRR
          by_cases h2 : mx < na
          · have d2 : decide ((mx : Int) < (na : Int)) = true := by simp; omega
            have d2' : (mx : Int) < (na : Int) := by omega
            have hre := HRR.out
            rw [if_pos (.inr h2)] at hre
            subst hre
            go_wp2_with fail
            go_quiet (fail)
            go_wp2_with fail
            go_ret2
            have hbq := below_drewN hb04 nq
            exact ⟨some ⟨ga, 0, none⟩, c, n, rfl, HN.out, ((App.refl own1).later hbq).own, (HAL.out.mono (by omega)).trans (hbq.mono (by have := HAL.out.size; omega))⟩
          · have d2 : decide ((mx : Int) < (na : Int)) = false := by simp; omega
            have d2' : ¬ (mx : Int) < (na : Int) := by omega
            have hre := HRR.out
            rw [if_neg (by omega)] at hre
            subst hre
            have hw2 : IntKind.u64.wrap ((na : Int) + (nx : Int)) = (na : Int) + (nx : Int) := IntWalk.u64_in _ ⟨by omega, by omega⟩
            go_wp2_with fail
            go_quiet (fail)
            have hbq := below_drewN hb04 nq
            obtain ⟨WQ, hWQ⟩ : ∃ WQ, w4.drewN nq = WQ := ⟨_, rfl⟩
            rw [hWQ] at hbq ⊢
            clear ca cx fa hWQ hb04
            have hbq1 := below_drewN hbq 1
            have hq0 := HC3.out WQ hbq
            have hq1 := HC3.out (WQ.drewN 1) hbq1
            have HQ1 := Lib.hid hq1
            obtain ⟨ca, cx, fa⟩ := hq0
            rw [HNA.out] at ca
            rw [HNX.out] at cx
            go_wp2_with fail
            go_still_tail 12, (by kernel_rfl)
            change wpList _ _ _ _ _ WQ.drew
            clear ca cx fa
            have ca : WQ.drew.cell? ⟨ga, k * 4 + 3, none⟩ = some (.int .u64 a.n) := HQ1.out.1
            have fa : WQ.drew.frozen? ⟨ga, k * 4 + 3, none⟩ = false := HQ1.out.2.2
            go_wp2_with fail
            go_ret2
            have ow := ((App.refl own1).later hbq1).own
            obtain ⟨st1, st2⟩ := ow.stored (k * 4 + 3) (.int .u64 ((na + nx : Nat) : Int))
            have hset : (eds l).set (k * 4 + 3) (.int .u64 ((na + nx : Nat) : Int)) = eds (l.set k ⟨a.b, a.f, a.t, na + nx⟩) := flatR_setD edC_length (by omega) rfl HA.out
            rw [hset] at st1
            have hnn : ((na : Int) + (nx : Int)) = ((na + nx : Nat) : Int) := by omega
            have hgb : base ≤ ga := (own_ltD own1 ga rfl).2
            rw [hnn]
            exact ⟨some ⟨ga, 0, none⟩, c, n, rfl, by rw [List.length_set, HN.out], st1, (HAL.out.mono (by omega)).trans ((hbq1.mono (by have := HAL.out.size; omega)).setCell (p := ⟨ga, k * 4 + 3, none⟩) hgb _)⟩
    · have hkn0 : k = n := by omega
      have hlt' : decide ((k : Int) < (n : Int)) = false := by simp; omega
      have hps : addPos x l = k := addPos_at (by rw [HN.out]; exact hk) HALL.out (fun b hb => by
        rw [List.getElem?_eq_none (by rw [HN.out]; omega)] at hb
        cases hb)
      have hRR : R = (l.take k ++ x :: l.drop k, decide (x.n ≤ 4611686018427387904)) := by
        have hnone : l[k]? = none := List.getElem?_eq_none (by rw [HN.out]; omega)
        rw [← HR.out, addE, hps, hnone]
      have HRR := Lib.hid hRR
      clear hRR hps HR HALL
      go_wp2_with fail
      go_quiet (fail)
      have hb0 := below_drewN hbr nq
      obtain ⟨W0, hW0⟩ : ∃ W0, wr.drewN nq = W0 := ⟨_, rfl⟩
      rw [hW0] at hb0 ⊢
      clear hW0 hbr
      go_wp2_with fail
      go_quiet (fail)
      have hb00 := below_drewN hb0 nq
      obtain ⟨WX, hWX⟩ : ∃ WX, W0.drewN nq = WX := ⟨_, rfl⟩
      rw [hWX] at hb00 ⊢
      clear hWX hb0 hkn0 hlt hlt'
      have HBW := Lib.hid hb00
      clear hb00
      have hrbW := Rd.of_own ((App.refl own1).later HBW.out).own
      have hkc : (k : Int) ≤ (c : Int) := by omega
      have hkn : (k : Int) ≤ (n : Int) := by omega
      have hbs : base ≤ WX.heap.size := by have h1 := HAL.out.size; have h2 := HBW.out.size; omega
      go_wp2_with (at_builtin; go_loud (refine wpList_appD _ rfl (.tmp 63) (.tmp 66) rfl WX.heap.size _ 0 [] rfl (World.ownsRow_lit WX #[] 0 (Nat.le_refl _) (by simp [maxLen]) rfl) WX.heap.size _ (n - k) _ (l.drop k) rfl (by rw [List.length_drop, HN.out]) (Rd.alloc (RbD.drop (cap := c) hrbW (by rw [HN.out]; exact hcap)) (Nat.le_refl _) _) (by omega) (by simp) ?_))
      intro A3 c3 w3 hap _
      have hap1 := hap.fresh1
      have hb3 := hap1.below0
      have hlo := hap1.lo
      have hb13 := HBW.out.trans (hb3.mono HBW.out.size)
      have hb13d := below_drewN hb13 1
      have ownD := ((App.refl own1).later hb13d).own
      have bkD := bk.below hb13d bk.lt
      have hne3 : ∀ q, A3 = some q → (Value.slice A n c).ownBlock ≠ some q.block := fun q hq e1 => by
        have h1 := (own_ltD own1 _ e1).1
        have h2 := (hlo q hq).1
        have h3 := HBW.out.size
        omega
      obtain ⟨A5, c5, w5, A6, c6, w6, hrun5, hrun6, hown6, hb6, hkp⟩ := insRowD (e := x) (w3.drewN 1) ownD HN.out hk hnl hap1.drew.own hne3 (Nat.le_trans hbs hb3.size)
      have hkg := hkp g (by have := bkD.lt; exact this) hgo
      have F4 : (loadK 47 ⟨g, 0, none⟩).run Try.prog w3.drew = .ok (edV x) w3.drew ∧ w3.drew.cell? ⟨g, 3, none⟩ = some (.int .u64 x.n) := ⟨loadK_edB bkD, bkD.cell 3⟩
      have FA : Hid (∀ ob, (loadK 47 ⟨g, 0, none⟩).run Try.prog (w3.alloc ob).drew = .ok (edV x) (w3.alloc ob).drew ∧ (w3.alloc ob).drew.cell? ⟨g, 3, none⟩ = some (.int .u64 x.n)) := Lib.hid fun ob => by
        have hq : Bk (w3.alloc ob).drew g 47 (edA x) := bkD.alloc ob
        exact ⟨loadK_edB hq, hq.cell 3⟩
      have bk5 : Bk w5 g 47 (edA x) := hkg.1.trans bkD
      have bk6 : Bk w6 g 47 (edA x) := hkg.2.trans bkD
      have F5 : (loadK 47 ⟨g, 0, none⟩).run Try.prog w5 = .ok (edV x) w5 ∧ w5.cell? ⟨g, 3, none⟩ = some (.int .u64 x.n) := ⟨loadK_edB bk5, bk5.cell 3⟩
      have F6 : (loadK 47 ⟨g, 0, none⟩).run Try.prog w6 = .ok (edV x) w6 ∧ w6.cell? ⟨g, 3, none⟩ = some (.int .u64 x.n) := ⟨loadK_edB bk6, bk6.cell 3⟩
      have hrun5' : (appK #[25, 25] 25 #[.slice A k c, .slice (some ⟨w3.heap.size, 0, none⟩) 1 1]).run Try.prog (w3.alloc (.cells (edA x) 47)).drew = .ok (.slice A5 (k + 1) c5) w5 := hrun5
      have HO6 := Lib.hid hown6
      have HB6 := Lib.hid hb6
      have HB13 := Lib.hid hb13d
      clear hkp hkg hown6 hb6 bk5 bk6 hap hap1 hb3 hlo ownD bkD hne3 hrbW hrun5 hb13 hb13d
      go_wp2_with fail
      go_region_held3 (fun w' => (loadK 47 ⟨g, 0, none⟩).run Try.prog w' = .ok (edV x) w' ∧ w'.cell? ⟨g, 3, none⟩ = some (.int .u64 x.n))
        (first | exact F4 | exact FA.out _ | exact F5 | exact F6) (fail)
      all_goals go_wp2_with fail
      all_goals go_ret2
      all_goals
        rw [HRR.out]
        have hbb : Below base w w6 := (HAL.out.mono (by omega)).trans ((HB13.out.mono (by have := HAL.out.size; omega)).trans HB6.out)
        have hdn : decide ((x.n : Int) ≤ 4611686018427387904) = decide (x.n ≤ 4611686018427387904) := by
          by_cases h : x.n ≤ 4611686018427387904
          · rw [decide_eq_true h, decide_eq_true (show (x.n : Int) ≤ 4611686018427387904 by omega)]
          · rw [decide_eq_false h, decide_eq_false (show ¬ (x.n : Int) ≤ 4611686018427387904 by omega)]
        exact ⟨A6, c6, n + 1, (by rw [← hdn]; rfl), by simp only [List.length_append, List.length_cons, List.length_take, List.length_drop, HN.out]; omega, HO6.out, hbb⟩
end Go.Proofs.Ythaiplhjekkooaa

/- Adjusted spans: what they are, as they lie. -/
namespace Go.Proofs.Ythaiplhjekkooaa
open Go.RowKit

structure Ad where
  s : Sp
  up : Nat
  shift : Int
  flag : Int
abbrev adC (a : Ad) (A : Option Addr) (n c : Nat) : Array Value := #[.int .u64 a.s.hi, .int .u64 a.s.lo, .int .u64 a.s.id, .int .u64 a.s.parent, .string a.s.service, .string a.s.name, .int .i64 a.s.kind, .int .i64 a.s.start, .int .i64 a.s.length, .bool a.s.fails, .slice A n c, .int .u64 a.up, .int .i64 a.shift, .int .i64 a.flag]
abbrev adV (a : Ad) (A : Option Addr) (n c : Nat) : Value := .agg (adC a A n c)
def adChk (a : Ad) : Nat := if spChk a.s ≠ 0 then spChk a.s else if a.flag < 0 ∨ 2 < a.flag then 2 else 0
def Ad.Ok (a : Ad) : Prop := a.s.U64 ∧ a.up < 18446744073709551616 ∧ -9223372036854775808 ≤ a.shift ∧ a.shift ≤ 9223372036854775807
theorem run_loadVar_cellsK {P : Program} (w : World) (ty : TypeId) (d : TypeDesc) (a : Addr) (xs : List Value) (hu : P.underlying ty = some d) (hd : (match d with | .struct _ | .array _ _ => true | _ => false) = true) (hi : (P.info? ty).map (·.size) = some xs.length)
    (hc : ∀ j v, xs[j]? = some v → w.cell? (a.add j) = some v) : (loadVar ty a).run P w = .ok (.agg xs.toArray) w := by
  have hl := run_loadCells_list (P := P) w a xs hc
  cases hq : P.info? ty with
  | none => simp [hq] at hi
  | some i =>
    have hs : i.size = xs.length := by simpa [hq] using hi
    have hagg : (isAgg ty).run P w = .ok true w := by
      unfold isAgg
      rw [Sem.run_bind, run_underlying hu w]
      cases d <;> simp_all
    simp [loadVar, Sem.run_bind, hagg, sizeOf, typeInfo, hq, hs, hl]
set_option maxRecDepth 100000 in
theorem loadK_adSp {w : World} {g n c : Nat} {a : Ad} {A : Option Addr} (h : Bk w g 45 (adC a A n c)) : (loadK 43 ⟨g, 0, none⟩).run Try.prog w = .ok (spV a.s A n c) w :=
  run_loadVar_cellsK w _ _ ⟨g, 0, none⟩ (spC a.s A n c).toList Try.underlying43 rfl (by rfl) (fun j v hv => by
    have hj : j < 11 := (List.getElem?_eq_some_iff.1 hv).1
    rw [Addr.add_lit, Nat.zero_add, h.cell j, ← hv]
    have h14 : ∀ j, j < 11 → (adC a A n c)[j]? = (spC a.s A n c).toList[j]? := by
      intro j hj
      have : j = 0 ∨ j = 1 ∨ j = 2 ∨ j = 3 ∨ j = 4 ∨ j = 5 ∨ j = 6 ∨ j = 7 ∨ j = 8 ∨ j = 9 ∨ j = 10 := by omega
      rcases this with rfl | rfl | rfl | rfl | rfl | rfl | rfl | rfl | rfl | rfl | rfl <;> rfl
    exact h14 j hj)
abbrev zadC : Array Value := #[.int .u64 0, .int .u64 0, .int .u64 0, .int .u64 0, .string ⟨#[]⟩, .string ⟨#[]⟩, .int .i64 0, .int .i64 0, .int .i64 0, .bool false, .slice none 0 0, .int .u64 0, .int .i64 0, .int .i64 0]
theorem adC_one (a : Ad) (A : Option Addr) (n c : Nat) : (adC a A n c).all (·.oneCell') = true := by simp [Value.oneCell']
set_option maxRecDepth 100000 in
theorem loadK_ad {w : World} {g n c : Nat} {a : Ad} {A : Option Addr} (h : Bk w g 45 (adC a A n c)) : (loadK 45 ⟨g, 0, none⟩).run Try.prog w = .ok (adV a A n c) w :=
  run_loadVar_row w g _ _ (adC a A n c) (0, 0) _ h Try.underlying45 rfl (by rfl)
set_option maxRecDepth 100000 in
theorem loadK_spK {w : World} {g n c : Nat} {s : Sp} {A : Option Addr} (h : Bk w g 43 (spC s A n c)) : (loadK 43 ⟨g, 0, none⟩).run Try.prog w = .ok (spV s A n c) w :=
  run_loadVar_row w g _ _ (spC s A n c) (0, 0) _ h Try.underlying43 rfl (by rfl)
end Go.Proofs.Ythaiplhjekkooaa

/- The document's layer 21, plain: what Unique, place, cycle answer. -/
namespace Go.Proofs.Ythaiplhjekkooaa
open Go.RowKit

/-- Is y ahead of x, the i-th, and of its ID? -/
def ahd (x y : Sp) (k i : Nat) : Bool := decide (y.id = x.id) && (decide (spCmp y x < 0) || (decide (spCmp y x = 0) && decide (k < i)))
/-- Is none of the first n ahead of x, the i-th? -/
def fstTo (l : List Sp) (x : Sp) (i n : Nat) : Bool := (List.range n).all fun k => match l[k]? with | some y => !ahd x y k i | none => true
/-- Where an ID is put: looked for from k on down. -/
def insK (id : Nat) (out : List Sp) : Nat → Nat
  | 0 => 0
  | k + 1 => match out[k]? with
    | some y => if id < y.id then insK id out k else k + 1
    | none => k + 1
def insAt (x : Sp) (out : List Sp) : List Sp := out.take (insK x.id out out.length) ++ x :: out.drop (insK x.id out out.length)
/-- What Unique has of the first i. -/
def uniqTo (l : List Sp) : Nat → List Sp
  | 0 => []
  | i + 1 => match l[i]? with
    | some x => if fstTo l x i l.length = true then insAt x (uniqTo l i) else uniqTo l i
    | none => uniqTo l i
def uniq (l : List Sp) : List Sp := uniqTo l l.length
/-- The place of an ID. -/
def plcG (id : Nat) : List Sp → Nat → Int
  | [], _ => -1
  | x :: l, i => if x.id = id then (i : Int) else plcG id l (i + 1)
def plc (l : List Sp) (id : Nat) : Int := plcG id l 0
def cycGo (l : List Sp) (i : Nat) (x : Sp) : Nat → Int → Bool
  | 0, _ => false
  | n + 1, p => if p < 0 then false else match l[p.toNat]? with
    | none => false
    | some y => if x.parent = 0 ∨ y.id < x.id then false else if p = (i : Int) then true else if y.parent = 0 then false else cycGo l i x n (plc l y.parent)
/-- Is the i-th on a cycle, and has the least ID of it? -/
def cyc (l : List Sp) (i : Nat) (x : Sp) : Bool := cycGo l i x (l.length + 1) (plc l x.parent)
end Go.Proofs.Ythaiplhjekkooaa

/- The document's layer 21, plain: what Unique, Up, Adjust answer. -/
namespace Go.Proofs.Ythaiplhjekkooaa
open Go.RowKit

def upOf (u : List Sp) (i : Nat) (x : Sp) : Ad :=
  if x.parent = 0 then ⟨x, 0, 0, 0⟩ else if plc u x.parent < 0 then ⟨x, 0, 0, 1⟩ else if cyc u i x = true then ⟨x, 0, 0, 2⟩ else ⟨x, x.parent, 0, 0⟩
/-- What Up has of the first i. -/
def upsTo (u : List Sp) : Nat → List Ad
  | 0 => []
  | i + 1 => match u[i]? with
    | some x => upsTo u i ++ [upOf u i x]
    | none => upsTo u i
def ups (l : List Sp) : List Ad := upsTo (uniq l) (uniq l).length
/-- How far a span is moved below another one. -/
def shiftS (c : Sp) (p : Ad) : Int :=
  if c.service = p.s.service then p.shift
  else if p.s.length < c.length then (if c.start < p.s.start then p.s.start - c.start else 0)
  else if p.s.start ≤ c.start ∧ c.start + c.length ≤ p.s.start + p.s.length then 0
  else p.s.start + (p.s.length - c.length) / 2 - c.start
/-- x moved below y. -/
def mvAd (x y : Ad) : Ad :=
  ⟨{ x.s with start := min (max 0 (x.s.start + shiftS x.s y)) (4611686018427387903 - x.s.length) }, x.up, shiftS x.s y, x.flag⟩
/-- Adjust's state: the spans, and which are done. -/
structure AjS where
  o : List Ad
  d : List Bool
def ajK (i : Nat) (st : AjS) (k : Nat) : AjS :=
  match st.o[k]?, st.o[i]?, st.d[k]? with
  | some y, some x, some true => if y.s.id = x.up then ⟨st.o.set i (mvAd x y), st.d.set i true⟩ else st
  | _, _, _ => st
def ajI (n : Nat) (st : AjS) (i : Nat) : AjS :=
  match st.o[i]?, st.d[i]? with
  | some x, some false => if x.up = 0 then ⟨st.o, st.d.set i true⟩ else (List.range n).foldl (ajK i) st
  | _, _ => st
def ajN (n : Nat) (st : AjS) (_ : Nat) : AjS := (List.range n).foldl (ajI n) st
def ajAll (o : List Ad) : AjS := (List.range o.length).foldl (ajN o.length) ⟨o, List.replicate o.length false⟩
/-- The first error of some spans. -/
def spErr : List Sp → Nat
  | [] => 0
  | x :: l => if spChk x ≠ 0 then spChk x else spErr l
/-- Are all of the first one's trace? -/
def oneTr : List Sp → Bool
  | [] => true
  | x :: l => (x :: l).all fun y => decide (y.hi = x.hi) && decide (y.lo = x.lo)
/-- What Adjust answers. -/
def adjS (l : List Sp) : List Ad × Nat :=
  if l.length = 0 then ([], 2) else if 64 < l.length then ([], 3) else if spErr l ≠ 0 then ([], spErr l) else if oneTr l = false then ([], 2) else ((ajAll (ups l)).o, 0)
end Go.Proofs.Ythaiplhjekkooaa

/- Lists of adjusted spans, as they lie. -/
namespace Go.Proofs.Ythaiplhjekkooaa
open Go.RowKit

/-- An adjusted span as it lies: itself, and its tags' slice. -/
structure AE where
  a : Ad
  A : Option Addr
  n : Nat
  c : Nat
def aeC (e : AE) : List Value := (adC e.a e.A e.n e.c).toList
theorem aeC_length (e : AE) : (aeC e).length = 14 := rfl
theorem aeC_one (e : AE) : ∀ u ∈ aeC e, u.oneCell' = true := by
  intro u hu
  have := adC_one e.a e.A e.n e.c
  rw [Array.all_eq_true'] at this
  exact this u (by simpa [aeC] using hu)
abbrev aes (l : List AE) : List Value := flatR aeC l
/-- Its tags lie where it says. -/
structure AeOk (w : World) (B : Nat) (e : AE) : Prop where
  rd : RbT w B e.A e.a.s.tags
  len : e.a.s.tags.length = e.n
  max : e.n ≤ 9223372036854775807
  ok : e.a.Ok
theorem AeOk.below {w w' : World} {B : Nat} {e : AE} (h : AeOk w B e) (hb : Below B w w') : AeOk w' B e := ⟨Rd.below h.rd hb, h.len, h.max, h.ok⟩
theorem AeOk.more {w : World} {B B' : Nat} {e : AE} (h : AeOk w B e) (hb : B ≤ B') : AeOk w B' e := ⟨Rd.more h.rd hb, h.len, h.max, h.ok⟩
/-- Adjusted spans that lie from A on, and their tags. -/
structure RbA (w : World) (B : Nat) (A : Option Addr) (l : List AE) : Prop where
  rd : Rd w B A (aes l)
  ok : ∀ e ∈ l, AeOk w B e
section
variable {w w' : World} {B B' : Nat} {A : Option Addr} {l : List AE}
theorem RbA.nil : RbA w B A [] := ⟨Rd.nil, fun _ h => by cases h⟩
theorem RbA.below (h : RbA w B A l) (hb : Below B w w') : RbA w' B A l := ⟨Rd.below h.rd hb, fun e he => (h.ok e he).below hb⟩
theorem RbA.more (h : RbA w B A l) (hB : B ≤ B') : RbA w B' A l := ⟨Rd.more h.rd hB, fun e he => (h.ok e he).more hB⟩
theorem RbA.bS (h : RbA w w.heap.size A l) (hb : Below w.heap.size w w') : RbA w' w'.heap.size A l := (h.below hb).more hb.size
theorem RbA.get (h : RbA w B A l) {i : Nat} {e : AE} (hi : l[i]? = some e) :
    ∃ b o, A = some ⟨b, o, none⟩ ∧ b < B ∧ (∀ j, j < 14 → w.cell? ⟨b, o + (i * 14 + j), none⟩ = (aeC e)[j]?) ∧ AeOk w B e := by
  obtain ⟨b, o, hA, hb, hc⟩ := flatR_at aeC_length (by omega) h.rd hi
  exact ⟨b, o, hA, hb, hc, h.ok e (List.mem_of_getElem? hi)⟩
end
set_option maxRecDepth 100000 in
theorem loadK_ae {w : World} {b o i : Nat} {e : AE} (h : ∀ j, j < 14 → w.cell? ⟨b, o + (i * 14 + j), none⟩ = (aeC e)[j]?) : (loadK 45 ⟨b, o + i * 14, none⟩).run Try.prog w = .ok (adV e.a e.A e.n e.c) w :=
  run_loadVar_cellsK w _ _ ⟨b, o + i * 14, none⟩ (aeC e) Try.underlying45 rfl (by rfl) (fun j v hv => by
    have hj : j < 14 := by have := (List.getElem?_eq_some_iff.1 hv).1; rwa [aeC_length] at this
    rw [Addr.add_lit, Nat.add_assoc, h j hj, hv])

/-- From when to when adjusted spans are. -/
def bndStep (b : Int × Int) (e : AE) : Int × Int := (min b.1 e.a.s.start, max b.2 (e.a.s.start + e.a.s.length))
def bnds : List AE → Int × Int
  | [] => (0, 0)
  | e :: l => (e :: l).foldl bndStep (e.a.s.start, e.a.s.start + e.a.s.length)
end Go.Proofs.Ythaiplhjekkooaa

/- Spans: long, Check. -/
namespace Go.Proofs.Ythaiplhjekkooaa
open Go.RowKit

/-- The first that p tells, or -1. -/
def idxT (p : Tg → Bool) (l : List Tg) : Int := match l.findIdx? p with | some i => (i : Int) | none => -1
theorem idxT_hit {p : Tg → Bool} {l : List Tg} {j : Nat} {x : Tg} (h : (l.take j).any p = false) (hx : l[j]? = some x) (hp : p x = true) : idxT p l = j := by
  have hj := (List.getElem?_eq_some_iff.1 hx).1
  have : l.findIdx? p = some j := by
    rw [List.findIdx?_eq_some_iff_getElem]
    refine ⟨hj, by rw [(List.getElem?_eq_some_iff.1 hx).2]; exact hp, fun i hi => ?_⟩
    have h1 := List.any_eq_false.1 h (l[i]'(by omega)) (List.mem_of_getElem? (i := i) (by rw [List.getElem?_take, if_pos hi]; exact List.getElem?_eq_getElem _))
    simpa using h1
  rw [idxT, this]
theorem idxT_none {p : Tg → Bool} {l : List Tg} (h : l.any p = false) : idxT p l = -1 := by
  have : l.findIdx? p = none := by
    rw [List.findIdx?_eq_none_iff]
    intro x hx
    have := List.any_eq_false.1 h x hx
    simpa using this
  rw [idxT, this]
theorem idxT_any (p : Tg → Bool) (l : List Tg) : decide (0 ≤ idxT p l) = l.any p := by
  by_cases h : l.any p = true
  · rw [h, decide_eq_true_iff, idxT]
    cases hf : l.findIdx? p with
    | none =>
      rw [List.findIdx?_eq_none_iff] at hf
      obtain ⟨x, hx, hp⟩ := List.any_eq_true.1 h
      rw [hf x hx] at hp
      cases hp
    | some i => simp only; omega
  · have h : l.any p = false := by simpa using h
    rw [h, idxT_none h]
    rfl

set_option maxHeartbeats 400000 in
theorem spIndexLong {A : Option Addr} {c n B : Nat} {l : List Tg} (w : World) (hf : RbT w B A l) (hn : l.length = n) (hB : B ≤ w.heap.size) (hnl : n ≤ 9223372036854775807) :
    Calls Try.prog 73 #[.slice A n c, .func (.func 64) #[] #[]] w fun e w' => e = .returned (.int .i64 (idxT tgLong l)) ∧ Below w.heap.size w w' := by
  have HN := Lib.hid hn
  obtain ⟨q, hq⟩ : ∃ q, idxT tgLong l = q := ⟨_, rfl⟩
  rw [hq]
  have HQ := Lib.hid hq
  clear hn hq
  go_enter Try.func73, Try.ntmps73
  go_wp2
  go_loopw [8] (fun iv_ wr => ∃ j : Nat, j ≤ n ∧ iv_ = .int .i64 j ∧ (l.take j).any tgLong = false ∧ Below w.heap.size w wr) (fun i _ => n - (intOf i).toNat)
  case atStart => exact ⟨0, by omega, rfl, rfl, Below.refl _ _⟩
  case round =>
    obtain ⟨j, hj, rfl, hall, hb⟩ := hrel
    have HA := Lib.hid hall
    clear hall
    by_cases hlt : j < n
    · have hlt' : (j : Int) < (n : Int) := by omega
      obtain ⟨x, hx⟩ : ∃ x, l[j]? = some x := ⟨_, List.getElem?_eq_getElem (by rw [HN.out]; exact hlt)⟩
      obtain ⟨b, o, rfl, hbb, h1, h2⟩ := RbT.get (Rd.below hf (hb.mono hB)) hx
      have HX := Lib.hid hx
      clear hx
      go_wp2_with (go_at_call 64; refine (spLong1 _ x).mono ?_; rintro e w' ⟨rfl, hb'⟩)
      · have hb2 := hb.trans (hb'.mono hb.size)
        rename_i hpx
        go_ret
        have hqt : q = (j : Int) := by
          rw [← HQ.out]
          exact idxT_hit HA.out HX.out (by first | exact hpx | simpa using hpx)
        exact ⟨by rw [hqt]; rfl, hb2⟩
      · have hb2 := hb.trans (hb'.mono hb.size)
        rename_i hpx
        go_roundw
        case rel => exact ⟨j + 1, by omega, by go_num, by rw [take_snoc HX.out, List.any_append, HA.out]; simpa using hpx, hb2⟩
        case measure => simp [intOf]; omega
    · have hlt' : decide ((j : Int) < (n : Int)) = false := by simp; omega
      go_wp2
      go_ret
      have : q = -1 := by
        rw [← HQ.out]
        have h1 := HA.out
        rw [List.take_of_length_le (by rw [HN.out]; omega)] at h1
        exact idxT_none h1
      exact ⟨by rw [this]; rfl, hb⟩

theorem spHasLong {A : Option Addr} {c n B : Nat} {l : List Tg} (w : World) (hf : RbT w B A l) (hn : l.length = n) (hB : B ≤ w.heap.size) (hnl : n ≤ 9223372036854775807) :
    Calls Try.prog 63 #[.slice A n c, .func (.func 64) #[] #[]] w fun e w' => e = .returned (.bool (l.any tgLong)) ∧ Below w.heap.size w w' := by
  have hc := spIndexLong (c := c) w hf hn hB hnl
  have ha := idxT_any tgLong l
  obtain ⟨q, hq⟩ : ∃ q, idxT tgLong l = q := ⟨_, rfl⟩
  rw [hq] at hc ha
  rw [← ha]
  have HC := Lib.hid hc
  clear hc hq ha
  go_enter Try.func63, Try.ntmps63
  go_wp2_with (go_at_call 73; refine HC.out.mono ?_; rintro e w' ⟨rfl, hb'⟩)
  go_ret
  exact ⟨rfl, hb'⟩

set_option maxHeartbeats 400000 in
theorem spLong {A : Option Addr} {c n B : Nat} (s : Sp) (w : World) (hf : RbT w B A s.tags) (hn : s.tags.length = n) (hB : B ≤ w.heap.size) (hnl : n ≤ 9223372036854775807) :
    Calls Try.prog 50 #[spV s A n c] w fun e w' => e = .returned (.bool (longB s)) ∧ Below w.heap.size w w' := by
  obtain ⟨q, hq⟩ : ∃ q, longB s = q := ⟨_, rfl⟩
  rw [hq]
  unfold longB at hq
  rw [hn] at hq
  have HQ := Lib.hid hq
  have hb0 : Below w.heap.size w (w.alloc (.cells (spC s A n c) 43)) := (Below.refl _ w).alloc (Nat.le_refl _) _
  have hf1 := Rd.alloc hf hB (.cells (spC s A n c) 43)
  clear hq
  by_cases h1 : 128 < s.service.size
  · have d1 : (128 : Int) < (s.service.size : Int) := by omega
    go_enter Try.func50, Try.ntmps50
    go_wp2
    go_ret
    have : q = true := by rw [← HQ.out]; simp [h1]
    exact ⟨by rw [this]; rfl, hb0⟩
  have d1 : decide ((128 : Int) < (s.service.size : Int)) = false := by simp; omega
  by_cases h2 : 128 < s.name.size
  · have d2 : (128 : Int) < (s.name.size : Int) := by omega
    go_enter Try.func50, Try.ntmps50
    go_wp2
    go_ret
    have : q = true := by rw [← HQ.out]; simp [h2]
    exact ⟨by rw [this]; rfl, hb0⟩
  have d2 : decide ((128 : Int) < (s.name.size : Int)) = false := by simp; omega
  by_cases h3 : 16 < n
  · have d3 : (16 : Int) < (n : Int) := by omega
    go_enter Try.func50, Try.ntmps50
    go_wp2
    go_ret
    have : q = true := by rw [← HQ.out]; simp [h3]
    exact ⟨by rw [this]; rfl, hb0⟩
  have d3 : decide ((16 : Int) < (n : Int)) = false := by simp; omega
  have hc := spHasLong (c := c) _ hf1 hn (by simp; omega) hnl
  obtain ⟨a, ha⟩ : ∃ a, s.tags.any tgLong = a := ⟨_, rfl⟩
  rw [ha] at hc
  have hqa : q = a := by rw [← HQ.out, ha]; simp [h1, h2, h3]
  have HC := Lib.hid hc
  clear hc ha
  go_enter Try.func50, Try.ntmps50
  go_wp2_with (go_at_call 63; refine HC.out.mono ?_; rintro e w' ⟨rfl, hb'⟩)
  go_ret
  exact ⟨by rw [hqa]; rfl, hb0.trans (hb'.mono (by simp))⟩
end Go.Proofs.Ythaiplhjekkooaa

/- Spans: Check. -/
namespace Go.Proofs.Ythaiplhjekkooaa
open Go.RowKit

theorem tagOk_at {l : List Tg} {i : Nat} {t : Tg} (h : l[i]? = some t) : tagOk l i = (nameB t.key && txtB t.val && (decide (i = 0) || match l[i - 1]? with | none => true | some u => strLt u.key t.key)) := by
  simp only [tagOk, h]
  rfl
set_option maxRecDepth 100000 in
set_option maxHeartbeats 2000000 in
/-- Check of a span that is not too long and whose head is right. -/
theorem spCheck1 {A : Option Addr} {c n B : Nat} (s : Sp) (w : World) (hf : RbT w B A s.tags) (hn : s.tags.length = n) (hB : B ≤ w.heap.size) (hnl : n ≤ 9223372036854775807) (hlong : longB s = false) (hhead : headB s = true) :
    Calls Try.prog 34 #[spV s A n c] w fun e w' => e = .returned (.int .i64 (if tagsOk s.tags n = true then 0 else 2 : Nat)) ∧ Below w.heap.size w w' := by
  have hb0 : Below w.heap.size w (w.alloc (.cells (spC s A n c) 43)) := (Below.refl _ w).alloc (Nat.le_refl _) _
  have hf1 := Rd.alloc hf hB (.cells (spC s A n c) 43)
  have bk := Bk.new w 43 (spC s A n c)
  have hs1 : (w.alloc (.cells (spC s A n c) 43)).heap.size = w.heap.size + 1 := by simp
  obtain ⟨w1, hw1⟩ : ∃ w1, w.alloc (.cells (spC s A n c) 43) = w1 := ⟨_, rfl⟩
  rw [hw1] at hb0 hf1 bk hs1
  have HW := Lib.hid hw1
  have hc := spLong (c := c) s w1 hf1 hn (by omega) hnl
  rw [hlong] at hc
  have HC := Lib.hid hc
  obtain ⟨q, hq⟩ : ∃ q, tagsOk s.tags n = q := ⟨_, rfl⟩
  rw [hq]
  have HQ := Lib.hid hq
  have HN := Lib.hid hn
  clear hw1 hc hq hn hlong
  simp only [headB, Bool.and_eq_true, Bool.or_eq_true, decide_eq_true_eq, ne_eq] at hhead
  obtain ⟨⟨⟨⟨⟨⟨⟨⟨⟨h0, h1⟩, h2⟩, h3⟩, h4⟩, h5⟩, h6⟩, h7⟩, h8⟩, h9⟩ := hhead
  have N2 := Lib.hid h2
  have N3 := Lib.hid h3
  have d1 : ((s.id : Int) != 0) = true := by rw [bne_iff_ne]; omega
  go_enter Try.func34, Try.ntmps34
  go_wp2_with fail
  rw [HW.out]
  refine HC.out.mono ?_
  rintro e w2 ⟨rfl, hb2⟩
  have hs2 := hb2.size
  have hb02 := hb0.trans (hb2.mono (by omega))
  have hf2 := (Rd.below hf1 (hb2.mono (by omega))).more (show B ≤ w2.heap.size by omega)
  have bk2 := bk.below hb2 (by omega)
  obtain ⟨g, hg⟩ : ∃ g, w.heap.size = g := ⟨_, rfl⟩
  rw [hg] at bk2 ⊢
  have k0 : w2.cell? ⟨g, 0, none⟩ = some (.int .u64 s.hi) := bk2.cell 0
  have k1 : w2.cell? ⟨g, 1, none⟩ = some (.int .u64 s.lo) := bk2.cell 1
  have k2 : w2.cell? ⟨g, 2, none⟩ = some (.int .u64 s.id) := bk2.cell 2
  have k4 : w2.cell? ⟨g, 4, none⟩ = some (.string s.service) := bk2.cell 4
  have k5 : w2.cell? ⟨g, 5, none⟩ = some (.string s.name) := bk2.cell 5
  have k6 : w2.cell? ⟨g, 6, none⟩ = some (.int .i64 s.kind) := bk2.cell 6
  have k7 : w2.cell? ⟨g, 7, none⟩ = some (.int .i64 s.start) := bk2.cell 7
  have k8 : w2.cell? ⟨g, 8, none⟩ = some (.int .i64 s.length) := bk2.cell 8
  have k10 : w2.cell? ⟨g, 10, none⟩ = some (.slice A n c) := bk2.cell 10
  clear bk hf1 hb0 HW
  have HHS := Lib.hid hs2
  have HH1 := Lib.hid hs1
  have HHB := Lib.hid hB
  have HHG := Lib.hid hg
  have HB02 := Lib.hid hb02
  have HF2 := Lib.hid hf2
  have HBK := Lib.hid bk2
  clear hs2 hs1 hB hg hb02 hf2 bk2 hf hb2 h2 h3
  have h6' : decide (s.kind ≤ 5) = true := by simpa using h5
  go_wp2_with (first
    | (go_at_call 51; refine (spName _ _).mono ?_; rintro e w' ⟨rfl, hw⟩; rw [hw]; clear hw w'; first | rw [N2.out] | rw [N3.out]))
  all_goals
    go_loopw [3, 63] (fun fv iv_ wr => ∃ j : Nat, j ≤ n ∧ iv_ = .int .i64 j ∧ fv = .bool (tagsOk s.tags j) ∧ Below w2.heap.size w2 wr) (fun _ i _ => n - (intOf i).toNat)
    case atStart => exact ⟨0, by omega, rfl, rfl, Below.refl _ _⟩
    case round =>
      obtain ⟨j, hj, rfl, rfl, hb⟩ := hrel
      obtain ⟨f, hf⟩ : ∃ f, tagsOk s.tags j = f := ⟨_, rfl⟩
      rw [hf]
      have HF := Lib.hid hf
      clear hf
      have hgl : g < w2.heap.size := by have := HHG.out; have := HHS.out; have := HH1.out; omega
      by_cases hlt : j < n
      · have hlt' : (j : Int) < (n : Int) := by omega
        obtain ⟨x, hx⟩ : ∃ x, s.tags[j]? = some x := ⟨_, List.getElem?_eq_getElem (by rw [HN.out]; exact hlt)⟩
        have hRb : Rd wr w2.heap.size A (tgs s.tags) := (Rd.more HF2.out (Nat.le_refl _)).below hb
        obtain ⟨b, o, rfl, hbb, c1, c2⟩ := RbT.get hRb hx
        have k10' : wr.cell? ⟨g, 10, none⟩ = some (.slice (some ⟨b, o, none⟩) n c) := (hb.cell (p := ⟨g, 10, none⟩) hgl).trans k10
        have HX := Lib.hid hx
        clear hx
        go_wp2_with fail
        have hsr := hb.size
        have m0 : (wr.alloc (.cells #[.string x.key, .string x.val] 90)).cell? ⟨wr.heap.size, 0, none⟩ = some (.string x.key) := (Bk.new wr 90 #[.string x.key, .string x.val]).cell 0
        have m1 : (wr.alloc (.cells #[.string x.key, .string x.val] 90)).cell? ⟨wr.heap.size, 1, none⟩ = some (.string x.val) := (Bk.new wr 90 #[.string x.key, .string x.val]).cell 1
        have k10W := (World.cell?_alloc_lt wr (.cells #[.string x.key, .string x.val] 90) ⟨g, 10, none⟩ (by simp only; omega)).trans k10'
        have hRW := Rd.alloc hRb hsr (.cells #[.string x.key, .string x.val] 90)
        have hbW := hb.alloc hsr (.cells #[.string x.key, .string x.val] 90)
        obtain ⟨W, hW⟩ : ∃ W, wr.alloc (.cells #[.string x.key, .string x.val] 90) = W := ⟨_, rfl⟩
        rw [hW] at m0 m1 k10W hRW hbW ⊢
        obtain ⟨r, hr⟩ : ∃ r, wr.heap.size = r := ⟨_, rfl⟩
        rw [hr] at m0 m1 ⊢
        have HHRW := Lib.hid hRW
        have HBW := Lib.hid hbW
        clear hW hr hsr hRW hbW hRb hb hgl
        have hstep : tagsOk s.tags (j + 1) = (f && (nameB x.key && txtB x.val && (decide (j = 0) || match s.tags[j - 1]? with | none => true | some u => strLt u.key x.key))) := by
          rw [tagsOk_succ, HF.out, tagOk_at HX.out]
        by_cases hft : f = false
        · subst hft
          have HST : Hid (tagsOk s.tags (j + 1) = false) := by rw [hstep]; rfl
          clear hstep
          go_quiet (fail)
          go_wp2
          go_roundw
          case rel => exact ⟨j + 1, by omega, by go_num, by rw [HST.out], below_drewN HBW.out _⟩
          case measure => simp [intOf]; omega
        obtain rfl : f = true := by simpa using hft
        obtain ⟨n1, hn1⟩ : ∃ n1, nameB x.key = n1 := ⟨_, rfl⟩
        have cN : ∀ W', Calls Try.prog 51 #[.string x.key] W' fun e w' => e = .returned (.bool n1) ∧ w' = W' := by intro W'; have := spName W' x.key; rwa [hn1] at this
        rw [hn1] at hstep
        clear hn1 hft
        cases n1 with
        | false =>
          have HST : Hid (tagsOk s.tags (j + 1) = false) := by rw [hstep]; rfl
          clear hstep
          go_quiet ((go_at_call 51; go_loud (exact Calls.quiet_of_same (cN _))))
          go_wp2
          go_roundw
          case rel => exact ⟨j + 1, by omega, by go_num, by rw [HST.out], below_drewN HBW.out _⟩
          case measure => simp [intOf]; omega
        | true =>
        obtain ⟨t1, ht1⟩ : ∃ t1, txtB x.val = t1 := ⟨_, rfl⟩
        have cT : ∀ W', Calls Try.prog 41 #[.string x.val] W' fun e w' => e = .returned (.bool t1) ∧ w' = W' := by intro W'; have := spText W' x.val; rwa [ht1] at this
        rw [ht1] at hstep
        clear ht1
        cases t1 with
        | false =>
          have HST : Hid (tagsOk s.tags (j + 1) = false) := by rw [hstep]; rfl
          clear hstep
          go_quiet (first
            | (go_at_call 51; go_loud (exact Calls.quiet_of_same (cN _)))
            | (go_at_call 41; go_loud (exact Calls.quiet_of_same (cT _))))
          go_wp2
          go_roundw
          case rel => exact ⟨j + 1, by omega, by go_num, by rw [HST.out], below_drewN HBW.out _⟩
          case measure => simp [intOf]; omega
        | true =>
        cases j with
        | zero =>
          have HST : Hid (tagsOk s.tags (0 + 1) = true) := by rw [hstep]; rfl
          clear hstep
          go_quiet (first
            | (go_at_call 51; go_loud (exact Calls.quiet_of_same (cN _)))
            | (go_at_call 41; go_loud (exact Calls.quiet_of_same (cT _))))
          go_wp2
          go_roundw
          case rel => exact ⟨0 + 1, by omega, by go_num, by rw [HST.out], below_drewN HBW.out _⟩
          case measure => simp [intOf]; omega
        | succ k =>
          obtain ⟨u, hu⟩ : ∃ u, s.tags[k]? = some u := ⟨_, List.getElem?_eq_getElem (by rw [HN.out]; omega)⟩
          obtain ⟨b', o', e', _, p1, _⟩ := RbT.get HHRW.out hu
          cases e'
          have e1 : (k : Int) + 1 - 1 = (k : Int) := by omega
          have e2 : ((k : Int) + 1 == 0) = false := by rw [beq_eq_false_iff_ne]; omega
          have hkn : (k : Int) < (n : Int) := by omega
          have hkn' : k < n := by omega
          have hst : tagsOk s.tags (k + 1 + 1) = strLt u.key x.key := by rw [hstep, show k + 1 - 1 = k from rfl, hu]; simp
          have HST := Lib.hid hst
          clear hst
          clear hstep hu c1 c2
          go_quiet (first
            | (go_at_call 51; go_loud (exact Calls.quiet_of_same (cN _)))
            | (go_at_call 41; go_loud (exact Calls.quiet_of_same (cT _))))
          go_wp2
          go_roundw
          case rel => exact ⟨k + 1 + 1, by omega, by go_num, by rw [HST.out]; rfl, below_drewN HBW.out _⟩
          case measure => simp [intOf]; omega
      · have hlt' : decide ((j : Int) < (n : Int)) = false := by simp; omega
        obtain rfl : j = n := by omega
        have hqf : f = q := by rw [← HF.out, HQ.out]
        subst hqf
        cases f
        · go_wp2
          go_ret
          exact ⟨rfl, HB02.out.trans (hb.mono (by have := HHS.out; have := HH1.out; omega))⟩
        · go_wp2
          go_ret
          exact ⟨rfl, HB02.out.trans (hb.mono (by have := HHS.out; have := HH1.out; omega))⟩
end Go.Proofs.Ythaiplhjekkooaa

/- Spans, the document's answer: plain, Text, Check. -/
namespace Go.Proofs.Ythaiplhjekkooaa
open Go.RowKit

set_option maxHeartbeats 400000 in
theorem rPlain (w : World) (s : ByteArray) (hm : s.size ≤ 1000000) :
    Calls Try.prog 53 #[.string s] w fun e w' => e = .returned (.bool (plainB s)) ∧ w' = w := by
  obtain ⟨q, hq⟩ : ∃ q, plainB s = q := ⟨_, rfl⟩
  rw [hq]
  have HQ := Lib.hid hq
  clear hq
  go_enter Try.func53, Try.ntmps53
  go_wp2
  go_loop [3] (fun iv_ => ∃ k : Nat, k ≤ s.size ∧ iv_ = .int .i64 k ∧ ((nums s).take k).all (fun x => decide (32 ≤ x) && decide (x ≤ 126)) = true) (fun i => s.size - (intOf i).toNat)
  case atStart => exact ⟨0, by omega, rfl, rfl⟩
  case round =>
    obtain ⟨k, hk, rfl, hall⟩ := hrel
    have HA := Lib.hid hall
    clear hall
    by_cases hlt : k < s.size
    · have hlt' : (k : Int) < (s.size : Int) := by omega
      obtain ⟨z, hz⟩ : ∃ z : Int, z = ((s[k]'hlt).toNat : Int) := ⟨_, rfl⟩
      have hzz : ((s[k]'hlt).toNat : Int) = z := hz.symm
      have HZ : Hid ((nums s)[k]? = some z) := by rw [hz]; exact nums_get hlt
      clear hz
      by_cases h1 : z < 32
      · go_wp2
        go_ret
        have : q = false := by
          rw [← HQ.out, plainB, List.all_eq_false]
          exact ⟨z, List.mem_of_getElem? HZ.out, by simp; omega⟩
        exact ⟨by rw [this]; rfl, rfl⟩
      have h1' : decide (z < 32) = false := by simp; omega
      by_cases h2 : 126 < z
      · go_wp2
        go_ret
        have : q = false := by
          rw [← HQ.out, plainB, List.all_eq_false]
          exact ⟨z, List.mem_of_getElem? HZ.out, by simp; omega⟩
        exact ⟨by rw [this]; rfl, rfl⟩
      have h2' : decide (126 < z) = false := by simp; omega
      go_wp2
      go_round
      case rel => exact ⟨k + 1, by omega, by go_num, by rw [take_snoc HZ.out, List.all_append, HA.out]; simp; omega⟩
      case measure => simp [intOf]; omega
    · have hlt' : decide ((k : Int) < (s.size : Int)) = false := by simp; omega
      go_wp2
      go_ret
      have : q = true := by
        rw [← HQ.out, plainB]
        have h1 := HA.out
        rwa [List.take_of_length_le (by rw [nums_len]; omega)] at h1
      exact ⟨by rw [this]; rfl, rfl⟩

theorem rTxt (w : World) (s : ByteArray) :
    Calls Try.prog 47 #[.string s] w fun e w' => e = .returned (.bool (txtB s)) ∧ w' = w := by
  by_cases h0 : s.size ≤ 128
  · have d1 : (s.size : Int) ≤ 128 := by omega
    obtain ⟨q, hq⟩ : ∃ q, plainB s = q := ⟨_, rfl⟩
    have hn : txtB s = q := by simp [txtB, h0, hq]
    have ht := rPlain w s (by omega)
    rw [hq] at ht
    rw [hn]
    have HT := Lib.hid ht
    clear ht hq hn
    go_enter Try.func47, Try.ntmps47
    go_wp2_with (go_at_call 53; refine HT.out.mono ?_; rintro e w' ⟨rfl, rfl⟩)
    go_ret
    exact ⟨rfl, rfl⟩
  · have d1 : decide ((s.size : Int) ≤ 128) = false := by simp; omega
    have hn : txtB s = false := by simp [txtB, h0]
    rw [hn]
    go_enter Try.func47, Try.ntmps47
    go_wp2
    go_ret
    exact ⟨rfl, rfl⟩

/-- The head's ways, in the order of the document's answer. -/
def HeadWays (s : Sp) : Prop :=
  (headB s = false ∧ ((s.hi = 0 ∧ s.lo = 0) ∨ ((s.hi ≠ 0 ∨ s.lo ≠ 0) ∧ (s.id = 0 ∨ s.id ≠ 0 ∧ (s.service.size = 0 ∨ 0 < s.service.size ∧ (s.name.size = 0 ∨ 0 < s.name.size ∧ (plainB s.service = false ∨ plainB s.service = true ∧ (plainB s.name = false ∨ plainB s.name = true ∧
    (s.kind < 0 ∨ 0 ≤ s.kind ∧ (5 < s.kind ∨ s.kind ≤ 5 ∧ (s.start < 0 ∨ 0 ≤ s.start ∧ (s.length < 0 ∨ 0 ≤ s.length ∧ (4611686018427387903 < s.start ∨ s.start ≤ 4611686018427387903 ∧ 4611686018427387903 - s.start < s.length))))))))))))) ∨
  (headB s = true ∧ (s.hi ≠ 0 ∨ s.lo ≠ 0) ∧ s.id ≠ 0 ∧ 0 < s.service.size ∧ 0 < s.name.size ∧ plainB s.service = true ∧ plainB s.name = true ∧ 0 ≤ s.kind ∧ s.kind ≤ 5 ∧ 0 ≤ s.start ∧ 0 ≤ s.length ∧ s.start ≤ 4611686018427387903 ∧ s.length ≤ 4611686018427387903 - s.start)
theorem headWays (s : Sp) (h1 : s.service.size ≤ 128) (h2 : s.name.size ≤ 128) : HeadWays s := by
  have e1 : nameB s.service = (decide (0 < s.service.size) && plainB s.service) := by simp [nameB, txtB, h1]
  have e2 : nameB s.name = (decide (0 < s.name.size) && plainB s.name) := by simp [nameB, txtB, h2]
  unfold HeadWays
  cases hh : headB s with
  | true =>
    rw [headB, e1, e2] at hh
    simp only [Bool.and_eq_true, Bool.or_eq_true, decide_eq_true_eq, ne_eq] at hh
    obtain ⟨⟨⟨⟨⟨⟨⟨⟨⟨a0, a1⟩, a2, a3⟩, a4, a5⟩, a6⟩, a7⟩, a8⟩, a9⟩, a10⟩, a11⟩ := hh
    exact .inr ⟨rfl, a0, a1, a2, a4, a3, a5, a6, a7, a8, a9, a10, a11⟩
  | false =>
    refine .inl ⟨rfl, ?_⟩
    by_cases a0 : s.hi = 0 ∧ s.lo = 0
    · exact .inl a0
    refine .inr ⟨by omega, ?_⟩
    by_cases a1 : s.id = 0
    · exact .inl a1
    refine .inr ⟨a1, ?_⟩
    by_cases a2 : s.service.size = 0
    · exact .inl a2
    refine .inr ⟨by omega, ?_⟩
    by_cases a3 : s.name.size = 0
    · exact .inl a3
    refine .inr ⟨by omega, ?_⟩
    cases a4 : plainB s.service with
    | false => exact .inl rfl
    | true =>
    refine .inr ⟨rfl, ?_⟩
    cases a5 : plainB s.name with
    | false => exact .inl rfl
    | true =>
    refine .inr ⟨rfl, ?_⟩
    by_cases a6 : s.kind < 0
    · exact .inl a6
    refine .inr ⟨by omega, ?_⟩
    by_cases a7 : 5 < s.kind
    · exact .inl a7
    refine .inr ⟨by omega, ?_⟩
    by_cases a8 : s.start < 0
    · exact .inl a8
    refine .inr ⟨by omega, ?_⟩
    by_cases a9 : s.length < 0
    · exact .inl a9
    refine .inr ⟨by omega, ?_⟩
    by_cases a10 : 4611686018427387903 < s.start
    · exact .inl a10
    refine .inr ⟨by omega, ?_⟩
    by_cases a11 : 4611686018427387903 - s.start < s.length
    · exact a11
    rw [headB, e1, e2] at hh
    have : (decide (s.hi ≠ 0) || decide (s.lo ≠ 0)) = true := by simp; omega
    rw [this, a4, a5] at hh
    simp at hh
    omega
theorem tagsOk_false {l : List Tg} {j n : Nat} (h : tagOk l j = false) (hj : j < n) : tagsOk l n = false := by
  rw [tagsOk, List.all_eq_false]
  exact ⟨j, List.mem_range.2 hj, by simp [h]⟩
end Go.Proofs.Ythaiplhjekkooaa
