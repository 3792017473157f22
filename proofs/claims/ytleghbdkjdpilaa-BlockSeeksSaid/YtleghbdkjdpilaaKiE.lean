/- bootprintkit.Entry, Entries, Weigh. -/
import Derived.BigRegion
import Derived.BigQuiet
import Derived.Deep.Cut
import Derived.Deep.RegionHeld3
import Derived.Test.YtleghbdkjdpilaaBkR
import Derived.Test.YtleghbdkjdpilaaKitBytes
namespace Go.Proofs.Ytleghbdkjdpilaa
open Go.RowKit
theorem loadEn_shutKe (a : Addr) : loadVar 29 a = loadK 29 a := rfl
attribute [local go_sem ↓] loadEn_shutKe

/-- Are entries the same? -/
def enEqb (x y : En) : Bool := decide (x.seq = y.seq) && decide (x.kind = y.kind) && eqb x.key y.key && eqb x.val y.val
theorem enEqb_iff {x y : En} : enEqb x y = true ↔ x = y := by
  rw [enEqb, Bool.and_eq_true, Bool.and_eq_true, Bool.and_eq_true, decide_eq_true_eq, decide_eq_true_eq, eqb_true, eqb_true]
  obtain ⟨a, b, c, d⟩ := x
  obtain ⟨a', b', c', d'⟩ := y
  simp only [En.mk.injEq]
  constructor
  · rintro ⟨⟨⟨h1, h2⟩, h3⟩, h4⟩
    exact ⟨h3, h1, h2, h4⟩
  · rintro ⟨h1, h2, h3, h4⟩
    exact ⟨⟨⟨h2, h3⟩, h1⟩, h4⟩
set_option maxRecDepth 100000 in
set_option maxHeartbeats 1000000 in
theorem kitEntry {B B' : Nat} {x y : BE} (w : World) (hx : BeOk w B x) (hy : BeOk w B' y) (hB : B ≤ w.heap.size) (hB' : B' ≤ w.heap.size) :
    Calls Try.prog 14 #[beV x, beV y] w fun e w' => e = .returned (.bool (enEqb x.x y.x)) ∧ Below w.heap.size w w' := by
  have bA := (Bk.new w 29 (beA x)).alloc (.cells (beA y) 29)
  have bB := Bk.new (w.alloc (.cells (beA x) 29)) 29 (beA y)
  rw [World.size_alloc] at bB
  have hb2 : Below w.heap.size w ((w.alloc (.cells (beA x) 29)).alloc (.cells (beA y) 29)) := ((Below.refl _ w).alloc (Nat.le_refl _) _).alloc (by simp) _
  obtain ⟨W, hW⟩ : ∃ W, (w.alloc (.cells (beA x) 29)).alloc (.cells (beA y) 29) = W := ⟨_, rfl⟩
  obtain ⟨g, hg⟩ : ∃ g, w.heap.size = g := ⟨_, rfl⟩
  rw [hW] at bA bB hb2
  have rx := hx.below (hb2.mono hB)
  have ry := hy.below (hb2.mono hB')
  rw [hg] at bA bB
  obtain ⟨q, hq⟩ : ∃ q, enEqb x.x y.x = q := ⟨_, rfl⟩
  obtain ⟨q1, hq1⟩ : ∃ q, eqb x.x.key y.x.key = q := ⟨_, rfl⟩
  obtain ⟨q2, hq2⟩ : ∃ q, eqb x.x.val y.x.val = q := ⟨_, rfl⟩
  have p1 := fun n => kitBytes (c := x.c1) (c' := y.c1) (W.drewN n) (Rd.drewN rx.k n) (Rd.drewN ry.k n) rx.km ry.km rfl rfl
  have p2 := fun n => kitBytes (c := x.c2) (c' := y.c2) (W.drewN n) (Rd.drewN rx.v n) (Rd.drewN ry.v n) rx.vm ry.vm rfl rfl
  have p0 := kitBytes (c := x.c1) (c' := y.c1) W rx.k ry.k rx.km ry.km rfl rfl
  have k0 : ∀ n i, (W.drewN n).cell? ⟨g, i, none⟩ = (beA x)[i]? := fun n i => bA.cell i
  have k1 : ∀ n i, (W.drewN n).cell? ⟨g + 1, i, none⟩ = (beA y)[i]? := fun n i => bB.cell i
  rw [hq]
  unfold enEqb at hq
  rw [hq1, hq2] at hq
  rw [hq1] at p1 p0
  rw [hq2] at p2
  have a0 : W.cell? ⟨g, 0, none⟩ = some (.slice x.A1 x.x.key.length x.c1) := bA.cell 0
  have a1 : W.cell? ⟨g, 1, none⟩ = some (.int .u64 x.x.seq) := bA.cell 1
  have a2 : W.cell? ⟨g, 2, none⟩ = some (.int .i64 x.x.kind) := bA.cell 2
  have b0 : W.cell? ⟨g + 1, 0, none⟩ = some (.slice y.A1 y.x.key.length y.c1) := bB.cell 0
  have b1 : W.cell? ⟨g + 1, 1, none⟩ = some (.int .u64 y.x.seq) := bB.cell 1
  have b2 : W.cell? ⟨g + 1, 2, none⟩ = some (.int .i64 y.x.kind) := bB.cell 2
  have HB3 : Hid (∀ n, Below w.heap.size w (W.drewN n)) := Lib.hid fun n => below_drewN hb2 n
  have HW := Lib.hid hW
  have HG := Lib.hid hg
  have P0 := Lib.hid p0
  have P2 := Lib.hid p2
  have HQ := Lib.hid hq
  have K0 := Lib.hid k0
  have K1 := Lib.hid k1
  clear hq hq1 hq2 p1 p2 p0 hW hg bA bB hb2 rx ry hx hy k0 k1
  go_enter Try.func14, Try.ntmps14
  go_upto_region 1 with fail
  rw [HW.out, HG.out]
  by_cases hs : x.x.seq = y.x.seq
  case neg =>
    have hs1 : (((x.x.seq : Nat) : Int) == ((y.x.seq : Nat) : Int)) = false := by rw [beq_eq_false_iff_ne]; omega
    go_wp2_with fail
    go_ret
    exact ⟨by rw [← HQ.out]; simp [hs], HB3.out 0⟩
  case pos =>
    have hs1 : (((x.x.seq : Nat) : Int) == ((y.x.seq : Nat) : Int)) = true := by simp [hs]
    by_cases hk : x.x.kind = y.x.kind
    case neg =>
      have hk1 : (x.x.kind == y.x.kind) = false := by rw [beq_eq_false_iff_ne]; exact hk
      have hqf : q = false := by rw [← HQ.out]; simp [hk]
      have HQF := Lib.hid hqf
      clear hs hk hqf
      go_wp2_with fail
      go_ret
      exact ⟨by rw [HQF.out]; rfl, HB3.out 0⟩
    case pos =>
      have hk1 : (x.x.kind == y.x.kind) = true := by simp [hk]
      have hqe : q = (q1 && q2) := by rw [← HQ.out]; simp [hs, hk]
      have HQE := Lib.hid hqe
      clear hs hk hqe
      go_wp2_with fail
      refine P0.out.mono ?_
      rintro e w2 ⟨rfl, n, rfl⟩
      have c3 : (W.drewN n).cell? ⟨g, 3, none⟩ = some (.slice x.A2 x.x.val.length x.c2) := K0.out n 3
      have d3 : (W.drewN n).cell? ⟨g + 1, 3, none⟩ = some (.slice y.A2 y.x.val.length y.c2) := K1.out n 3
      cases q1 with
      | false =>
        go_wp2_with fail
        go_ret
        exact ⟨by rw [HQE.out]; rfl, HB3.out n⟩
      | true =>
        go_wp2_with fail
        refine (P2.out n).mono ?_
        rintro e w3 ⟨rfl, m, rfl⟩
        rw [World.drewN_drewN]
        go_wp2_with fail
        go_ret
        exact ⟨by rw [HQE.out]; rfl, HB3.out (n + m)⟩
abbrev hidK (w : World) (a : Addr) (v : Value) : Prop := (loadK 29 a).run Try.prog w = .ok v w
set_option maxRecDepth 100000 in
set_option maxHeartbeats 2000000 in
theorem kitEntries {A A' : Option Addr} {n n' c c' B B' : Nat} (l m : List BE) (w : World) (h : RbE w B A l) (h' : RbE w B' A' m) (hn : l.length = n) (hn' : m.length = n') (hB : B ≤ w.heap.size) (hB' : B' ≤ w.heap.size) (hnl : n ≤ 9223372036854775807) :
    Calls Try.prog 19 #[.slice A n c, .slice A' n' c'] w fun e w' => e = .returned (.bool (decide (ens l = ens m))) ∧ Below w.heap.size w w' := by
  obtain ⟨q, hq⟩ : ∃ q, decide (ens l = ens m) = q := ⟨_, rfl⟩
  rw [hq]
  have HQ := Lib.hid hq
  have HN := Lib.hid hn
  have HN' := Lib.hid hn'
  have HH := Lib.hid h
  have HH' := Lib.hid h'
  clear hq hn hn' h h'
  by_cases hnn : n = n'
  case neg =>
    have hb : (((n : Nat) : Int) != ((n' : Nat) : Int)) = true := by simp; omega
    have hqf : q = false := by
      rw [← HQ.out, decide_eq_false_iff_not]
      intro e
      have := congrArg List.length e
      rw [ens, ens, List.length_map, List.length_map, HN.out, HN'.out] at this
      exact hnn this
    have HQF := Lib.hid hqf
    clear hqf hnn
    go_enter Try.func19, Try.ntmps19
    go_wp2_with fail
    go_ret
    exact ⟨by rw [HQF.out]; rfl, Below.refl _ _⟩
  case pos =>
    subst hnn
    go_enter Try.func19, Try.ntmps19
    go_wp2_with fail
    go_loopw [5] (fun i_ wr => ∃ k : Nat, k ≤ n ∧ i_ = .int .i64 k ∧ (ens l).take k = (ens m).take k ∧ Below w.heap.size w wr) (fun i_ _ => n - (intOf i_).toNat)
    case atStart => exact ⟨0, by omega, rfl, rfl, Below.refl _ _⟩
    case round =>
      obtain ⟨k, hk, rfl, ht, hbr⟩ := hrel
      have HT := Lib.hid ht
      clear ht
      by_cases hlt : k < n
      · have hlt' : (k : Int) < (n : Int) := by omega
        obtain ⟨a, ha⟩ : ∃ a, l[k]? = some a := ⟨_, List.getElem?_eq_getElem (by rw [HN.out]; omega)⟩
        obtain ⟨b, hb⟩ : ∃ b, m[k]? = some b := ⟨_, List.getElem?_eq_getElem (by rw [HN'.out]; omega)⟩
        obtain ⟨b1, o1, e1, hb1, hc1, hok1⟩ := ((HH.out.below (hbr.mono hB)).below (w' := wr.drew) (below_drewN (Below.refl _ _) 1)).get ha
        obtain ⟨b2, o2, e2, hb2, hc2, hok2⟩ := ((HH'.out.below (hbr.mono hB')).below (w' := wr.drew) (below_drewN (Below.refl _ _) 1)).get hb
        subst e1 e2
        have la := loadK_be hc1
        have lb := loadK_be hc2
        have hBr : B ≤ wr.drew.heap.size := Nat.le_trans hB hbr.size
        have hBr' : B' ≤ wr.drew.heap.size := Nat.le_trans hB' hbr.size
        have hcmp := kitEntry wr.drew hok1 hok2 hBr hBr'
        obtain ⟨r, hr⟩ : ∃ r, enEqb a.x b.x = r := ⟨_, rfl⟩
        rw [hr] at hcmp
        have HR := Lib.hid hr
        have HC := Lib.hid hcmp
        have HA := Lib.hid ha
        have HBB := Lib.hid hb
        have CLA : Hid (∀ W, Below wr.drew.heap.size wr.drew W → hidK W ⟨b1, o1 + k * 4, none⟩ (beV a) ∧ hidK W ⟨b2, o2 + k * 4, none⟩ (beV b)) := Lib.hid fun W h =>
          ⟨loadK_be fun j hj => (h.cell (show b1 < _ by omega)).trans (hc1 j hj), loadK_be fun j hj => (h.cell (show b2 < _ by omega)).trans (hc2 j hj)⟩
        clear hr hcmp hc1 hc2 hok1 hok2 ha hb
        cases r with
        | true =>
          go_wp2_with fail
          go_region_held3 (fun w' => (loadK 29 ⟨b1, o1 + k * 4, none⟩).run Try.prog w' = .ok (beV a) w' ∧ (loadK 29 ⟨b2, o2 + k * 4, none⟩).run Try.prog w' = .ok (beV b) w') (go_keep)
            (first
              | (go_at_call 14
                 refine HC.out.mono ?_
                 rintro e w3 ⟨rfl, hb3⟩
                 obtain ⟨s1, s2⟩ := CLA.out w3 hb3)
              | fail)
          go_wp2_with fail
          exact ⟨⟨k + 1, by omega, by go_num, by rw [take_snoc (ens_get HA.out), take_snoc (ens_get HBB.out), HT.out, enEqb_iff.1 HR.out], hbr.drew.trans (hb3.mono hbr.drew.size)⟩, by simp only [intOf]; omega⟩
        | false =>
          go_wp2_with fail
          go_region_held3 (fun w' => (loadK 29 ⟨b1, o1 + k * 4, none⟩).run Try.prog w' = .ok (beV a) w' ∧ (loadK 29 ⟨b2, o2 + k * 4, none⟩).run Try.prog w' = .ok (beV b) w') (go_keep)
            (first
              | (go_at_call 14
                 refine HC.out.mono ?_
                 rintro e w3 ⟨rfl, hb3⟩
                 obtain ⟨s1, s2⟩ := CLA.out w3 hb3)
              | fail)
          go_wp2_with fail
          go_ret
          have hqf : q = false := by
            rw [← HQ.out, decide_eq_false_iff_not]
            intro e
            have h1 := ens_get HA.out
            rw [e, ens_get HBB.out] at h1
            have h2 := HR.out
            rw [enEqb_iff.2 (Option.some.inj h1).symm] at h2
            cases h2
          exact ⟨by rw [hqf]; rfl, hbr.drew.trans (hb3.mono hbr.drew.size)⟩
      · have hlt' : decide ((k : Int) < (n : Int)) = false := by simp; omega
        go_wp2_with fail
        go_ret
        have hqt : q = true := by
          rw [← HQ.out, decide_eq_true_eq]
          have := HT.out
          rwa [List.take_of_length_le (by rw [ens, List.length_map, HN.out]; omega), List.take_of_length_le (by rw [ens, List.length_map, HN'.out]; omega)] at this
        exact ⟨by rw [hqt]; rfl, hbr⟩
/-- How many bytes entries have. -/
def weigh : List En → Nat
  | [] => 0
  | x :: l => x.key.length + x.val.length + weigh l
theorem weigh_app (a b : List En) : weigh (a ++ b) = weigh a + weigh b := by
  induction a with
  | nil => simp [weigh]
  | cons x a ih => rw [List.cons_append, weigh, weigh, ih]; omega
set_option maxRecDepth 100000 in
set_option maxHeartbeats 2000000 in
theorem kitWeigh {A : Option Addr} {n c B : Nat} (l : List BE) (w : World) (h : RbE w B A l) (hn : l.length = n) (hB : B ≤ w.heap.size) (hnl : n ≤ 1000) (hsz : ∀ e ∈ l, e.x.key.length ≤ 140737488351232 ∧ e.x.val.length ≤ 140737488351232) :
    Calls Try.prog 7 #[.slice A n c] w fun e w' => e = .returned (.int .i64 (weigh (ens l) : Nat)) ∧ Below w.heap.size w w' := by
  obtain ⟨q, hq⟩ : ∃ q, weigh (ens l) = q := ⟨_, rfl⟩
  rw [hq]
  have HQ := Lib.hid hq
  have HN := Lib.hid hn
  have HH := Lib.hid h
  have HSZ := Lib.hid hsz
  clear hq hn h hsz
  go_enter Try.func7, Try.ntmps7
  go_wp2_with fail
  go_loopw [3, 4] (fun s_ i_ wr => ∃ k s : Nat, k ≤ n ∧ s ≤ k * 281474976702464 ∧ i_ = .int .i64 k ∧ s_ = .int .i64 s ∧ Hid (s = weigh ((ens l).take k)) ∧ Below w.heap.size w wr) (fun _ i_ _ => n - (intOf i_).toNat)
  case atStart => exact ⟨0, 0, by omega, by omega, rfl, rfl, Lib.hid rfl, Below.refl _ _⟩
  case round =>
    obtain ⟨k, s, hk, hs, rfl, rfl, HS, hbr⟩ := hrel
    by_cases hlt : k < n
    · have hlt' : (k : Int) < (n : Int) := by omega
      obtain ⟨a, ha⟩ : ∃ a, l[k]? = some a := ⟨_, List.getElem?_eq_getElem (by rw [HN.out]; omega)⟩
      obtain ⟨b1, o1, e1, hb1, hc1, hok1⟩ := ((HH.out.below (hbr.mono hB)).below (w' := wr.drew) (below_drewN (Below.refl _ _) 1)).get ha
      subst e1
      have c0 : wr.cell? ⟨b1, o1 + k * 4, none⟩ = some (.slice a.A1 a.x.key.length a.c1) := hc1 0 (by omega)
      have c3 : wr.cell? ⟨b1, o1 + k * 4 + 3, none⟩ = some (.slice a.A2 a.x.val.length a.c2) := hc1 3 (by omega)
      obtain ⟨km, vm⟩ := HSZ.out a (List.mem_of_getElem? ha)
      obtain ⟨x1, hx1⟩ : ∃ x, a.x.key.length = x := ⟨_, rfl⟩
      obtain ⟨x2, hx2⟩ : ∃ x, a.x.val.length = x := ⟨_, rfl⟩
      rw [hx1] at c0 km
      rw [hx2] at c3 vm
      have hsn : s + x1 + x2 = weigh ((ens l).take (k + 1)) := by
        rw [take_snoc (ens_get ha), weigh_app, ← HS.out, weigh, weigh, hx1, hx2]
        omega
      have HSN := Lib.hid hsn
      have hks : k * 281474976702464 ≤ 281474976702464000 := Nat.le_trans (Nat.mul_le_mul_right _ (show k ≤ 1000 by omega)) (by decide)
      have hkn : (k + 1) * 281474976702464 = k * 281474976702464 + 281474976702464 := Nat.succ_mul _ _
      obtain ⟨K, hK⟩ : ∃ K, k * 281474976702464 = K := ⟨_, rfl⟩
      rw [hK] at hs hks hkn
      have HKN := Lib.hid hkn
      clear hsn hc1 hok1 ha hx1 hx2 hkn hK
      go_wp2_with fail
      go_quiet (fail)
      go_wp2_with fail
      exact ⟨⟨k + 1, s + x1 + x2, by omega, by rw [HKN.out]; omega, by go_num, by go_num, Lib.hid HSN.out, hbr.trans (below_drewN (Below.refl _ _) _)⟩, by simp only [intOf]; omega⟩
    · have hlt' : decide ((k : Int) < (n : Int)) = false := by simp; omega
      go_wp2_with fail
      go_ret
      have hsq : s = q := by
        rw [HS.out, ← HQ.out, List.take_of_length_le (by rw [ens, List.length_map, HN.out]; omega)]
      exact ⟨by rw [hsq]; rfl, hbr⟩
end Go.Proofs.Ytleghbdkjdpilaa
