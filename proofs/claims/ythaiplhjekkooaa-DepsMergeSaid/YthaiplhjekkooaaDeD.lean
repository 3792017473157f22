/- Edges: the document's add. -/
import Derived.Deep.RegionWith
import Derived.StillTailTactics
import Derived.Test.YthaiplhjekkooaaDeC
namespace Go.Proofs.Ythaiplhjekkooaa
open Go.RowKit
theorem loadEd_shutD (a : Addr) : loadVar 47 a = loadK 47 a := rfl
attribute [local go_sem ↓] loadEd_shutD
attribute [local go_sem ↓] appK_shut
attribute [local go_sem ↓] sliced_s
attribute [local go_sem ↓ high] sliced_s0

theorem flatR_setD {α : Type} {f : α → List Value} {k : Nat} (hf : ∀ x, (f x).length = k) {x x' : α} {j : Nat} {u : Value} (hj : j < k) (hx : f x' = (f x).set j u) :
    ∀ {l : List α} {i : Nat}, l[i]? = some x → (flatR f l).set (i * k + j) u = flatR f (l.set i x')
  | [], i, h => by simp at h
  | a :: l, 0, h => by
    simp at h
    subst h
    have e : flatR f (a :: l) = f a ++ flatR f l := rfl
    have e2 : flatR f ((a :: l).set 0 x') = f x' ++ flatR f l := rfl
    rw [e, e2, hx, Nat.zero_mul, Nat.zero_add, List.set_append_left _ _ (by rw [hf]; exact hj)]
  | a :: l, i + 1, h => by
    have ih := flatR_setD hf hj hx (l := l) (i := i) (by simpa using h)
    have e : flatR f (a :: l) = f a ++ flatR f l := rfl
    have e2 : flatR f ((a :: l).set (i + 1) x') = f a ++ flatR f (l.set i x') := rfl
    have hk : (i + 1) * k = i * k + k := Nat.succ_mul _ _
    rw [e, e2, ← ih, List.set_append_right _ _ (by rw [hf]; omega), hf, show (i + 1) * k + j - k = i * k + j from by omega]
set_option maxRecDepth 100000 in
set_option maxHeartbeats 4000000 in
theorem rDeAdd {base n c : Nat} {A : Option Addr} (l : List Ed) (x : Ed) (w : World) (hown : w.ownsRow base 47 4 (.slice A n c) n (eds l)) (hl : l.length = n) (hnl : n ≤ 100000) (hbase : base ≤ w.heap.size) (hx : x.n < 18446744073709551616) (hy : ∀ y ∈ l, y.n < 18446744073709551616) :
    Calls Try.prog 38 #[.slice A n c, edV x] w (AddPost base w (addE x l)) := by
  have hal : Below w.heap.size w (w.alloc (.cells (edA x) 47)) := (Below.refl _ w).alloc (Nat.le_refl _) _
  have bk := Bk.new w 47 (edA x)
  obtain ⟨w1, hw1⟩ : ∃ w1, w.alloc (.cells (edA x) 47) = w1 := ⟨_, rfl⟩
  obtain ⟨g, hg⟩ : ∃ g, w.heap.size = g := ⟨_, rfl⟩
  rw [hw1] at hal bk
  rw [hg] at bk
  have hgo : (Value.slice A n c).ownBlock ≠ some g := fun e => by have := (own_ltD hown g e).1; omega
  have own1 := ((App.refl hown).later hal).own
  have hcap : n ≤ c := by
    rcases hown.2 with ⟨h1, h2⟩ | ⟨q, cap, cur, h1, _, _, h3, _⟩
    · omega
    · injection h1 with _ _ h5
      omega
  obtain ⟨R, hR⟩ : ∃ R, addE x l = R := ⟨_, rfl⟩
  rw [hR]
  have HW := Lib.hid hw1
  have HG := Lib.hid hg
  have HR := Lib.hid hR
  have HN := Lib.hid hl
  have HAL := Lib.hid hal
  have HY := Lib.hid hy
  have hbg : base ≤ g := by omega
  clear hw1 hg hR hl hal hown hy
  go_enter Try.func38, Try.ntmps38
  go_upto_region 1 with fail
  rw [HW.out, HG.out]
  go_wp2_with fail
  go_loopw [6] (fun i_ wr => ∃ k : Nat, k ≤ n ∧ i_ = .int .i64 k ∧ Hid (∀ a ∈ l.take k, edLt a x = true) ∧ Below w1.heap.size w1 wr) (fun i_ _ => n - (intOf i_).toNat)
  case atStart => exact ⟨0, by omega, rfl, Lib.hid (fun a ha => by simp at ha), Below.refl _ _⟩
  case round =>
    obtain ⟨k, hk, rfl, HALL, hbr⟩ := hrel
    by_cases hlt : k < n
    · have hlt' : (k : Int) < (n : Int) := by omega
      obtain ⟨a, ha⟩ : ∃ a, l[k]? = some a := ⟨_, List.getElem?_eq_getElem (by rw [HN.out]; exact hlt)⟩
      have hbd := below_drewN hbr 1
      have ownd := ((App.refl own1).later hbd).own
      have hA : ∃ ga, A = some ⟨ga, 0, none⟩ := by
        rcases own1.2 with ⟨-, h0⟩ | ⟨q, cap, cur, h1, -⟩
        · omega
        · injection h1 with h2
          exact ⟨q, h2⟩
      obtain ⟨ga, rfl⟩ := hA
      have HL : Hid (∀ W, Below w1.heap.size w1 W → (loadK 47 ⟨ga, k * 4, none⟩).run Try.prog W = .ok (edV a) W ∧ (loadK 47 ⟨g, 0, none⟩).run Try.prog W = .ok (edV x) W) := Lib.hid fun W hW => by
        obtain ⟨b', o', e', -, hc'⟩ := RbD.at (Rd.of_own ((App.refl own1).later hW).own) ha
        cases e'
        have h1 := loadK_ed hc'
        rw [Nat.zero_add] at h1
        exact ⟨h1, loadK_edB (bk.below hW bk.lt)⟩
      obtain ⟨la, lx⟩ := HL.out _ hbd
      have hcb := rDeBefore a x wr.drew
      obtain ⟨r, hr⟩ : ∃ r, edLt a x = r := ⟨_, rfl⟩
      rw [hr] at hcb
      have HRR := Lib.hid hr
      have HC := Lib.hid hcb
      have HA := Lib.hid ha
      clear hr hcb ha ownd
      go_wp2_with fail
      go_region_held3 (fun w' => (loadK 47 ⟨ga, k * 4, none⟩).run Try.prog w' = .ok (edV a) w' ∧ (loadK 47 ⟨g, 0, none⟩).run Try.prog w' = .ok (edV x) w')
        (first | exact ⟨la, lx⟩ | exact ⟨la3, lx3⟩)
        (first
          | (go_at_call 48
             refine HC.out.mono ?_
             rintro en w3 ⟨rfl, hb3⟩
             have hb03 := hbd.trans (hb3.mono hbd.size)
             obtain ⟨la3, lx3⟩ := HL.out _ hb03)
          | fail)
      cases r with
      | true =>
        go_wp2_with fail
        exact ⟨⟨k + 1, by omega, by go_num, Lib.hid (fun b hb => by
          rw [take_snoc HA.out] at hb
          rcases List.mem_append.1 hb with hb | hb
          · exact HALL.out b hb
          · rw [List.mem_singleton.1 hb, HRR.out]), hb03⟩, by simp only [intOf]; omega⟩
      | false =>
        have hps : addPos x l = k := addPos_at (by rw [HN.out]; exact hk) HALL.out (fun b hb => by
          rw [HA.out] at hb
          cases hb
          exact HRR.out)
        have HPS := Lib.hid hps
        clear hps la lx la3 lx3 HC hbd hb3 hbr HALL HRR
        obtain ⟨wQ, hwQ⟩ : ∃ wQ, wQ = w3 := ⟨_, rfl⟩
        subst hwQ
        have hbd := below_drewN hb03 1
        obtain ⟨la, lx⟩ := HL.out _ hbd
        have hcb := rDeBefore x a wQ.drew
        obtain ⟨r2, hr2⟩ : ∃ r, edLt x a = r := ⟨_, rfl⟩
        rw [hr2] at hcb
        have HR2 := Lib.hid hr2
        have HC := Lib.hid hcb
        clear hr2 hcb
        go_wp2_with fail
        go_region_held3 (fun w' => (loadK 47 ⟨ga, k * 4, none⟩).run Try.prog w' = .ok (edV a) w' ∧ (loadK 47 ⟨g, 0, none⟩).run Try.prog w' = .ok (edV x) w')
          (first | exact ⟨la, lx⟩ | exact ⟨la3, lx3⟩)
          (first
            | (go_at_call 48
               refine HC.out.mono ?_
               rintro en w4 ⟨rfl, hb4⟩
               have hb04 := hbd.trans (hb4.mono hbd.size)
               obtain ⟨la3, lx3⟩ := HL.out _ hb04)
            | fail)
        clear la lx la3 lx3 HC hbd hb4 hb03
        cases r2 with
        | true =>
          have hRR : R = (l.take k ++ x :: l.drop k, decide (x.n ≤ 4611686018427387904)) := by
            rw [← HR.out, addE, HPS.out, HA.out]
            simp only [HR2.out, if_true]
          have HRR := Lib.hid hRR
          clear hRR HPS HA HR HR2 HL
          obtain ⟨WX, hWX⟩ : ∃ WX, WX = w4 := ⟨_, rfl⟩
          subst hWX
          have HBW := Lib.hid hb04
          clear hb04
          have hrbW := Rd.of_own ((App.refl own1).later HBW.out).own
          have hkc : (k : Int) ≤ (c : Int) := by omega
          have hkn : (k : Int) ≤ (n : Int) := by omega
          have hbs : base ≤ WX.heap.size := by have h1 := HAL.out.size; have h2 := HBW.out.size; omega
          go_wp2_with (at_builtin; go_loud (refine wpList_appD _ rfl (.tmp 63) (.tmp 66) rfl WX.heap.size _ 0 [] rfl (World.ownsRow_lit WX #[] 0 (Nat.le_refl _) (by simp [maxLen]) rfl) WX.heap.size _ (n - k) _ (l.drop k) rfl (by rw [List.length_drop, HN.out]) (Rd.alloc (RbD.drop (cap := c) hrbW (by rw [HN.out]; exact hcap)) (Nat.le_refl _) _) (by omega) (by simp) ?_))
          intro A3 c3 w3 hap _
          have hap1 := hap.fresh1
          have hb3 := hap1.below0
          have hlo := hap1.lo
          have hb13 := HBW.out.trans (hb3.mono HBW.out.size)
          have hb13d := below_drewN hb13 1
          have ownD := ((App.refl own1).later hb13d).own
          have bkD := bk.below hb13d bk.lt
          have hne3 : ∀ q, A3 = some q → (Value.slice (some ⟨ga, 0, none⟩) n c).ownBlock ≠ some q.block := fun q hq e1 => by
            have h1 := (own_ltD own1 _ e1).1
            have h2 := (hlo q hq).1
            have h3 := HBW.out.size
            omega
          obtain ⟨A5, c5, w5, A6, c6, w6, hrun5, hrun6, hown6, hb6, hkp⟩ := insRowD (e := x) (w3.drewN 1) ownD HN.out hk hnl hap1.drew.own hne3 (Nat.le_trans hbs hb3.size)
          have hkg := hkp g (by have := bkD.lt; exact this) hgo
          have F4 : (loadK 47 ⟨g, 0, none⟩).run Try.prog w3.drew = .ok (edV x) w3.drew ∧ w3.drew.cell? ⟨g, 3, none⟩ = some (.int .u64 x.n) := ⟨loadK_edB bkD, bkD.cell 3⟩
          have FA : Hid (∀ ob, (loadK 47 ⟨g, 0, none⟩).run Try.prog (w3.alloc ob).drew = .ok (edV x) (w3.alloc ob).drew ∧ (w3.alloc ob).drew.cell? ⟨g, 3, none⟩ = some (.int .u64 x.n)) := Lib.hid fun ob => by
            have hq : Bk (w3.alloc ob).drew g 47 (edA x) := bkD.alloc ob
            exact ⟨loadK_edB hq, hq.cell 3⟩
          have bk5 : Bk w5 g 47 (edA x) := hkg.1.trans bkD
          have bk6 : Bk w6 g 47 (edA x) := hkg.2.trans bkD
          have F5 : (loadK 47 ⟨g, 0, none⟩).run Try.prog w5 = .ok (edV x) w5 ∧ w5.cell? ⟨g, 3, none⟩ = some (.int .u64 x.n) := ⟨loadK_edB bk5, bk5.cell 3⟩
          have F6 : (loadK 47 ⟨g, 0, none⟩).run Try.prog w6 = .ok (edV x) w6 ∧ w6.cell? ⟨g, 3, none⟩ = some (.int .u64 x.n) := ⟨loadK_edB bk6, bk6.cell 3⟩
          have hrun5' : (appK #[25, 25] 25 #[.slice (some ⟨ga, 0, none⟩) k c, .slice (some ⟨w3.heap.size, 0, none⟩) 1 1]).run Try.prog (w3.alloc (.cells (edA x) 47)).drew = .ok (.slice A5 (k + 1) c5) w5 := hrun5
          have HO6 := Lib.hid hown6
          have HB6 := Lib.hid hb6
          have HB13 := Lib.hid hb13d
          clear hkp hkg hown6 hb6 bk5 bk6 hap hap1 hb3 hlo ownD bkD hne3 hrbW hrun5 hb13 hb13d
          go_wp2_with fail
          go_region_held3 (fun w' => (loadK 47 ⟨g, 0, none⟩).run Try.prog w' = .ok (edV x) w' ∧ w'.cell? ⟨g, 3, none⟩ = some (.int .u64 x.n))
            (first | exact F4 | exact FA.out _ | exact F5 | exact F6) (fail)
          all_goals go_wp2_with fail
          all_goals go_ret2
          all_goals
            rw [HRR.out]
            have hbb : Below base w w6 := (HAL.out.mono (by omega)).trans ((HB13.out.mono (by have := HAL.out.size; omega)).trans HB6.out)
            have hdn : decide ((x.n : Int) ≤ 4611686018427387904) = decide (x.n ≤ 4611686018427387904) := by
              by_cases h : x.n ≤ 4611686018427387904
              · rw [decide_eq_true h, decide_eq_true (show (x.n : Int) ≤ 4611686018427387904 by omega)]
              · rw [decide_eq_false h, decide_eq_false (show ¬ (x.n : Int) ≤ 4611686018427387904 by omega)]
            exact ⟨A6, c6, n + 1, (by rw [← hdn]; rfl), by simp only [List.length_append, List.length_cons, List.length_take, List.length_drop, HN.out]; omega, HO6.out, hbb⟩
        | false =>
          have hc3a : ∀ W, Below w1.heap.size w1 W → W.cell? ⟨ga, k * 4 + 3, none⟩ = some (.int .u64 a.n) ∧ W.cell? ⟨g, 3, none⟩ = some (.int .u64 x.n) ∧ W.frozen? ⟨ga, k * 4 + 3, none⟩ = false := fun W hW => by
            have ow := ((App.refl own1).later hW).own
            obtain ⟨b', o', e', -, hc'⟩ := RbD.at (Rd.of_own ow) HA.out
            cases e'
            have h1 := hc' 3 (by omega)
            rw [Nat.zero_add] at h1
            exact ⟨h1, (bk.below hW bk.lt).cell 3, ow.frozenAt _⟩
          have HC3 := Lib.hid hc3a
          have han := HY.out a (List.mem_of_getElem? HA.out)
          obtain ⟨na, hna⟩ : ∃ na, a.n = na := ⟨_, rfl⟩
          obtain ⟨nx, hnx⟩ : ∃ nx, x.n = nx := ⟨_, rfl⟩
          obtain ⟨ca, cx, fa⟩ := HC3.out w4 hb04
          rw [hna] at ca han
          rw [hnx] at cx hx
          have hRR : R = if 4611686018427387904 < nx ∨ 4611686018427387904 - nx < na then (l, false) else (l.set k ⟨a.b, a.f, a.t, na + nx⟩, true) := by
            rw [← HR.out, addE, HPS.out, HA.out]
            simp only [HR2.out, Bool.false_eq_true, if_false, hna, hnx]
          have HRR := Lib.hid hRR
          have HNA := Lib.hid hna
          have HNX := Lib.hid hnx
          clear hRR HPS HR HR2 HL hc3a hna hnx
          by_cases h1 : 4611686018427387904 < nx
          · have d1 : decide ((4611686018427387904 : Int) < (nx : Int)) = true := by simp; omega
            have d1' : (4611686018427387904 : Int) < (nx : Int) := by omega
            have hre := HRR.out
            rw [if_pos (.inl h1)] at hre
            subst hre
            go_wp2_with fail
            go_quiet (fail)
            go_wp2_with fail
            go_ret2
            have hbq := below_drewN hb04 nq
            exact ⟨some ⟨ga, 0, none⟩, c, n, rfl, HN.out, ((App.refl own1).later hbq).own, (HAL.out.mono (by omega)).trans (hbq.mono (by have := HAL.out.size; omega))⟩
          have d1 : decide ((4611686018427387904 : Int) < (nx : Int)) = false := by simp; omega
          have d1' : ¬ (4611686018427387904 : Int) < (nx : Int) := by omega
          obtain ⟨mx, hmx⟩ : ∃ mx, 4611686018427387904 - nx = mx := ⟨_, rfl⟩
          have hw1 : IntKind.u64.wrap (4611686018427387904 - (nx : Int)) = (mx : Int) := by
            rw [show (4611686018427387904 : Int) - (nx : Int) = (mx : Int) from by omega]
            exact IntWalk.u64_in _ ⟨by omega, by omega⟩
          rw [hmx] at HRR
          by_cases h2 : mx < na
          · have d2 : decide ((mx : Int) < (na : Int)) = true := by simp; omega
            have d2' : (mx : Int) < (na : Int) := by omega
            have hre := HRR.out
            rw [if_pos (.inr h2)] at hre
            subst hre
            go_wp2_with fail
            go_quiet (fail)
            go_wp2_with fail
            go_ret2
            have hbq := below_drewN hb04 nq
            exact ⟨some ⟨ga, 0, none⟩, c, n, rfl, HN.out, ((App.refl own1).later hbq).own, (HAL.out.mono (by omega)).trans (hbq.mono (by have := HAL.out.size; omega))⟩
          · have d2 : decide ((mx : Int) < (na : Int)) = false := by simp; omega
            have d2' : ¬ (mx : Int) < (na : Int) := by omega
            have hre := HRR.out
            rw [if_neg (by omega)] at hre
            subst hre
            have hw2 : IntKind.u64.wrap ((na : Int) + (nx : Int)) = (na : Int) + (nx : Int) := IntWalk.u64_in _ ⟨by omega, by omega⟩
            go_wp2_with fail
            go_quiet (fail)
            have hbq := below_drewN hb04 nq
            obtain ⟨WQ, hWQ⟩ : ∃ WQ, w4.drewN nq = WQ := ⟨_, rfl⟩
            rw [hWQ] at hbq ⊢
            clear ca cx fa hWQ hb04
            have hbq1 := below_drewN hbq 1
            have hq0 := HC3.out WQ hbq
            have hq1 := HC3.out (WQ.drewN 1) hbq1
            have HQ1 := Lib.hid hq1
            obtain ⟨ca, cx, fa⟩ := hq0
            rw [HNA.out] at ca
            rw [HNX.out] at cx
            go_wp2_with fail
            go_still_tail 12, (by kernel_rfl)
            change wpList _ _ _ _ _ WQ.drew
            clear ca cx fa
            have ca : WQ.drew.cell? ⟨ga, k * 4 + 3, none⟩ = some (.int .u64 a.n) := HQ1.out.1
            have fa : WQ.drew.frozen? ⟨ga, k * 4 + 3, none⟩ = false := HQ1.out.2.2
            go_wp2_with fail
            go_ret2
            have ow := ((App.refl own1).later hbq1).own
            obtain ⟨st1, st2⟩ := ow.stored (k * 4 + 3) (.int .u64 ((na + nx : Nat) : Int))
            have hset : (eds l).set (k * 4 + 3) (.int .u64 ((na + nx : Nat) : Int)) = eds (l.set k ⟨a.b, a.f, a.t, na + nx⟩) := flatR_setD edC_length (by omega) rfl HA.out
            rw [hset] at st1
            have hnn : ((na : Int) + (nx : Int)) = ((na + nx : Nat) : Int) := by omega
            have hgb : base ≤ ga := (own_ltD own1 ga rfl).2
            rw [hnn]
            exact ⟨some ⟨ga, 0, none⟩, c, n, rfl, by rw [List.length_set, HN.out], st1, (HAL.out.mono (by omega)).trans ((hbq1.mono (by have := HAL.out.size; omega)).setCell (p := ⟨ga, k * 4 + 3, none⟩) hgb _)⟩
    · have hkn0 : k = n := by omega
      have hlt' : decide ((k : Int) < (n : Int)) = false := by simp; omega
      have hps : addPos x l = k := addPos_at (by rw [HN.out]; exact hk) HALL.out (fun b hb => by
        rw [List.getElem?_eq_none (by rw [HN.out]; omega)] at hb
        cases hb)
      have hRR : R = (l.take k ++ x :: l.drop k, decide (x.n ≤ 4611686018427387904)) := by
        have hnone : l[k]? = none := List.getElem?_eq_none (by rw [HN.out]; omega)
        rw [← HR.out, addE, hps, hnone]
      have HRR := Lib.hid hRR
      clear hRR hps HR HALL
      go_wp2_with fail
      go_quiet (fail)
      have hb0 := below_drewN hbr nq
      obtain ⟨W0, hW0⟩ : ∃ W0, wr.drewN nq = W0 := ⟨_, rfl⟩
      rw [hW0] at hb0 ⊢
      clear hW0 hbr
      go_wp2_with fail
      go_quiet (fail)
      have hb00 := below_drewN hb0 nq
      obtain ⟨WX, hWX⟩ : ∃ WX, W0.drewN nq = WX := ⟨_, rfl⟩
      rw [hWX] at hb00 ⊢
      clear hWX hb0 hkn0 hlt hlt'
      have HBW := Lib.hid hb00
      clear hb00
      have hrbW := Rd.of_own ((App.refl own1).later HBW.out).own
      have hkc : (k : Int) ≤ (c : Int) := by omega
      have hkn : (k : Int) ≤ (n : Int) := by omega
      have hbs : base ≤ WX.heap.size := by have h1 := HAL.out.size; have h2 := HBW.out.size; omega
      go_wp2_with (at_builtin; go_loud (refine wpList_appD _ rfl (.tmp 63) (.tmp 66) rfl WX.heap.size _ 0 [] rfl (World.ownsRow_lit WX #[] 0 (Nat.le_refl _) (by simp [maxLen]) rfl) WX.heap.size _ (n - k) _ (l.drop k) rfl (by rw [List.length_drop, HN.out]) (Rd.alloc (RbD.drop (cap := c) hrbW (by rw [HN.out]; exact hcap)) (Nat.le_refl _) _) (by omega) (by simp) ?_))
      intro A3 c3 w3 hap _
      have hap1 := hap.fresh1
      have hb3 := hap1.below0
      have hlo := hap1.lo
      have hb13 := HBW.out.trans (hb3.mono HBW.out.size)
      have hb13d := below_drewN hb13 1
      have ownD := ((App.refl own1).later hb13d).own
      have bkD := bk.below hb13d bk.lt
      have hne3 : ∀ q, A3 = some q → (Value.slice A n c).ownBlock ≠ some q.block := fun q hq e1 => by
        have h1 := (own_ltD own1 _ e1).1
        have h2 := (hlo q hq).1
        have h3 := HBW.out.size
        omega
      obtain ⟨A5, c5, w5, A6, c6, w6, hrun5, hrun6, hown6, hb6, hkp⟩ := insRowD (e := x) (w3.drewN 1) ownD HN.out hk hnl hap1.drew.own hne3 (Nat.le_trans hbs hb3.size)
      have hkg := hkp g (by have := bkD.lt; exact this) hgo
      have F4 : (loadK 47 ⟨g, 0, none⟩).run Try.prog w3.drew = .ok (edV x) w3.drew ∧ w3.drew.cell? ⟨g, 3, none⟩ = some (.int .u64 x.n) := ⟨loadK_edB bkD, bkD.cell 3⟩
      have FA : Hid (∀ ob, (loadK 47 ⟨g, 0, none⟩).run Try.prog (w3.alloc ob).drew = .ok (edV x) (w3.alloc ob).drew ∧ (w3.alloc ob).drew.cell? ⟨g, 3, none⟩ = some (.int .u64 x.n)) := Lib.hid fun ob => by
        have hq : Bk (w3.alloc ob).drew g 47 (edA x) := bkD.alloc ob
        exact ⟨loadK_edB hq, hq.cell 3⟩
      have bk5 : Bk w5 g 47 (edA x) := hkg.1.trans bkD
      have bk6 : Bk w6 g 47 (edA x) := hkg.2.trans bkD
      have F5 : (loadK 47 ⟨g, 0, none⟩).run Try.prog w5 = .ok (edV x) w5 ∧ w5.cell? ⟨g, 3, none⟩ = some (.int .u64 x.n) := ⟨loadK_edB bk5, bk5.cell 3⟩
      have F6 : (loadK 47 ⟨g, 0, none⟩).run Try.prog w6 = .ok (edV x) w6 ∧ w6.cell? ⟨g, 3, none⟩ = some (.int .u64 x.n) := ⟨loadK_edB bk6, bk6.cell 3⟩
      have hrun5' : (appK #[25, 25] 25 #[.slice A k c, .slice (some ⟨w3.heap.size, 0, none⟩) 1 1]).run Try.prog (w3.alloc (.cells (edA x) 47)).drew = .ok (.slice A5 (k + 1) c5) w5 := hrun5
      have HO6 := Lib.hid hown6
      have HB6 := Lib.hid hb6
      have HB13 := Lib.hid hb13d
      clear hkp hkg hown6 hb6 bk5 bk6 hap hap1 hb3 hlo ownD bkD hne3 hrbW hrun5 hb13 hb13d
      go_wp2_with fail
      go_region_held3 (fun w' => (loadK 47 ⟨g, 0, none⟩).run Try.prog w' = .ok (edV x) w' ∧ w'.cell? ⟨g, 3, none⟩ = some (.int .u64 x.n))
        (first | exact F4 | exact FA.out _ | exact F5 | exact F6) (fail)
      all_goals go_wp2_with fail
      all_goals go_ret2
      all_goals
        rw [HRR.out]
        have hbb : Below base w w6 := (HAL.out.mono (by omega)).trans ((HB13.out.mono (by have := HAL.out.size; omega)).trans HB6.out)
        have hdn : decide ((x.n : Int) ≤ 4611686018427387904) = decide (x.n ≤ 4611686018427387904) := by
          by_cases h : x.n ≤ 4611686018427387904
          · rw [decide_eq_true h, decide_eq_true (show (x.n : Int) ≤ 4611686018427387904 by omega)]
          · rw [decide_eq_false h, decide_eq_false (show ¬ (x.n : Int) ≤ 4611686018427387904 by omega)]
        exact ⟨A6, c6, n + 1, (by rw [← hdn]; rfl), by simp only [List.length_append, List.length_cons, List.length_take, List.length_drop, HN.out]; omega, HO6.out, hbb⟩
end Go.Proofs.Ythaiplhjekkooaa
