/- Texts of the proof of DepsNamesSaid, joined: DeX DfD DfE DeN DeM SpL DeO DeP. -/
import Derived.Test.YthaiplhjekkooaaJDepsNames6
import Derived.Deep.RegionHeld3
import Derived.BigRegion
import Derived.Deep.Cut
import Derived.Deep.CutRange
import Derived.Deep.RegionWith
import Derived.Test.YthaiplhjekkooaaJDepsNames4
import Derived.Test.YthaiplhjekkooaaJDepsNames1
import Derived.Test.YthaiplhjekkooaaJDepsNames5
/- The document's Merge and Between of layer 24. -/
namespace Go.Proofs.Ythaiplhjekkooaa
open Go.RowKit
theorem loadEd_shutX (a : Addr) : loadVar 47 a = loadK 47 a := rfl
attribute [local go_sem ↓] loadEd_shutX

theorem addAll_app : ∀ (xs ys out : List Ed), addAll (xs ++ ys) out = (addAll xs out).bind (addAll ys)
  | [], ys, out => rfl
  | x :: xs, ys, out => by
    rw [List.cons_append, addAll, addAll]
    split
    · exact addAll_app xs ys _
    · rfl
theorem addAll_snoc {xs : List Ed} {x : Ed} {o : List Ed} (h : addAll xs [] = some o) : addAll (xs ++ [x]) [] = if (addE x o).2 = true then some (addE x o).1 else none := by
  rw [addAll_app, h]
  rfl
theorem addAll_fall {xs : List Ed} {x : Ed} {o : List Ed} {i : Nat} (h : addAll (xs.take i) [] = some o) (hx : xs[i]? = some x) (hf : (addE x o).2 = false) : addOut xs = ([], 3) := by
  have h1 : addAll xs [] = none := by
    rw [← List.take_append_drop (i + 1) xs, addAll_app, take_snoc hx, addAll_snoc h, hf]
    rfl
  rw [addOut, h1]
theorem addAll_fewX {xs o : List Ed} (h : addAll xs [] = some o) : EdFew o := by
  have hs := addAll_same (xs := xs) Same.nil (fun e he => by cases he)
  rw [h] at hs
  exact hs.2
set_option maxRecDepth 100000 in
set_option maxHeartbeats 8000000 in
theorem rDeMerge {A1 A2 : Option Addr} {n1 c1 n2 c2 B : Nat} (l1 l2 : List Ed) (w : World) (h1 : RbD w B A1 l1) (h2 : RbD w B A2 l2) (hn1 : l1.length = n1) (hn2 : l2.length = n2) (hB : B ≤ w.heap.size) (hs1 : n1 ≤ 10000) (hs2 : n2 ≤ 10000) (ho1 : ∀ e ∈ l1, e.n < 18446744073709551616) (ho2 : ∀ e ∈ l2, e.n < 18446744073709551616) :
    Calls Try.prog 27 #[.slice A1 n1 c1, .slice A2 n2 c2] w (EdsPost w (mergeOut l1 l2)) := by
  obtain ⟨r, hr⟩ : ∃ r, mergeOut l1 l2 = r := ⟨_, rfl⟩
  rw [hr]
  have cc1 := rDeCheck (c := c1) l1 w h1 hn1 hB (by omega)
  by_cases hk1 : edChk l1 = 0
  · rw [hk1] at cc1
    go_enter Try.func27, Try.ntmps27
    go_wp2_with fail
    refine cc1.mono ?_
    rintro en w1 ⟨rfl, hb1⟩
    have cc2 := rDeCheck (c := c2) l2 w1 (Rd.below h2 (hb1.mono hB)) hn2 (Nat.le_trans hB hb1.size) (by omega)
    by_cases hk2 : edChk l2 = 0
    · rw [hk2] at cc2
      go_wp2_with fail
      refine cc2.mono ?_
      rintro en w2 ⟨rfl, hb2⟩
      have hb02 := hb1.trans (hb2.mono hb1.size)
      have HRO := Lib.hid (show addOut (l1 ++ l2) = r by rw [← hr, mergeOut_ok hk1 hk2])
      have r1 := Rd.below h1 (hb02.mono hB)
      have r2 := Rd.below h2 (hb02.mono hB)
      have hbs := hb02.size
      have HB02 := Lib.hid hb02
      have HO1 := Lib.hid ho1
      have HO2 := Lib.hid ho2
      have hB2 := Nat.le_trans hB hbs
      have HN1 := Lib.hid hn1
      have HN2 := Lib.hid hn2
      clear cc1 cc2 hb1 hb2 hb02 hr ho1 ho2 hn1 hn2 h1 h2 hB hbs hk1 hk2
      go_wp2_with (at_builtin; go_loud (refine wpList_appD _ rfl (.tmp 20) (.tmp 21) rfl w2.heap.size _ 0 [] rfl (World.ownsRow_lit w2 #[] 0 (Nat.le_refl _) (by simp [maxLen]) rfl) _ _ n1 _ l1 rfl HN1.out (Rd.alloc r1 hB2 _) (by omega) (by simp) ?_))
      intro A3 c3 w3 hap3 _
      have hap3' := hap3.fresh1
      have hb3 := hap3'.below0
      go_wp2_with (at_builtin; go_loud (refine wpList_appD _ rfl (.tmp 22) (.tmp 23) rfl w2.heap.size _ _ _ rfl hap3'.own _ _ n2 _ l2 rfl HN2.out (Rd.below r2 (hb3.mono hB2)) (by omega) hb3.size ?_))
      intro A4 c4 w4 hap4 _
      have hb4 := hap4.below hb3.size (fun k hk => (own_ltD hap3'.own k hk).2)
      have hb24 := hb3.trans hb4
      have own4 : w4.ownsRow w2.heap.size 47 4 (.slice A4 (n1 + n2) c4) (n1 + n2) (eds (l1 ++ l2)) := hap4.own
      have HR4 := Lib.hid (show RbD w4 w4.heap.size A4 (l1 ++ l2) from Rd.of_own own4)
      have HB04 := Lib.hid (HB02.out.trans (hb24.mono HB02.out.size))
      have HNX := Lib.hid (show (l1 ++ l2).length = n1 + n2 by rw [List.length_append, HN1.out, HN2.out])
      have HOX := Lib.hid (show ∀ e ∈ l1 ++ l2, e.n < 18446744073709551616 from fun e he => (List.mem_append.1 he).elim (HO1.out e) (HO2.out e))
      obtain ⟨xs, hxs⟩ : ∃ xs, l1 ++ l2 = xs := ⟨_, rfl⟩
      rw [hxs] at HR4 HNX HOX HRO
      obtain ⟨n, hn⟩ : ∃ n, n1 + n2 = n := ⟨_, rfl⟩
      rw [hn] at HNX
      have hnl : n ≤ 20000 := by omega
      have HNN := Lib.hid hn
      clear hap3 hap3' hap4 hb3 hb4 hb24 own4 hxs hn HN1 HN2 HO1 HO2 HB02 r1 r2 hB2 hs1 hs2
      go_wp2_with fail
      rw [HNN.out]
      go_loopw [7, 9] (fun out_ i_ wr => ∃ (i m c' : Nat) (A' : Option Addr) (out : List Ed), i ≤ n ∧ out_ = .slice A' m c' ∧ i_ = .int .i64 i ∧ m ≤ i ∧ Hid (addAll (xs.take i) [] = some out ∧ out.length = m) ∧ wr.ownsRow w4.heap.size 47 4 (.slice A' m c') m (eds out) ∧ Hid (Below w4.heap.size w4 wr)) (fun _ i_ _ => n - (intOf i_).toNat)
      case atStart => exact ⟨0, 0, 0, none, [], by omega, rfl, rfl, by omega, Lib.hid ⟨rfl, rfl⟩, World.ownsRow_nil _ _ _ _, Lib.hid (Below.refl _ _)⟩
      case round =>
        obtain ⟨i, m, c', A', out, hi, rfl, rfl, hm, HO, hown, HB⟩ := hrel
        by_cases hij : i < n
        · have hij' : (i : Int) < (n : Int) := by omega
          obtain ⟨x, hx⟩ : ∃ x, xs[i]? = some x := ⟨_, List.getElem?_eq_getElem (by rw [HNX.out]; exact hij)⟩
          obtain ⟨ob, oo, eA, hbb, hcl⟩ := RbD.at (Rd.below HR4.out HB.out) hx
          subst eA
          have hld := loadK_ed hcl
          have hfew := addAll_fewX HO.out.1
          have cadd := rDeAdd (base := w4.heap.size) out x wr hown HO.out.2 (by omega) HB.out.size (HOX.out x (List.mem_of_getElem? hx)) (fun z hz => by have := hfew z hz; omega)
          have hsn : (addE x out).2 = true → addAll (xs.take (i + 1)) [] = some (addE x out).1 := fun hf => by
            rw [take_snoc hx, addAll_snoc HO.out.1, if_pos hf]
          have hfl := addAll_fall HO.out.1 hx
          have hle := addE_lenU x out
          rw [HO.out.2] at hle
          obtain ⟨R2, hR2⟩ : ∃ R2, addE x out = R2 := ⟨_, rfl⟩
          rw [hR2] at cadd hsn hfl hle
          obtain ⟨o2, f2⟩ := R2
          have HSN := Lib.hid hsn
          have HFL := Lib.hid hfl
          have HLE := Lib.hid hle
          have CA := Lib.hid cadd
          clear hsn hfl hle cadd hR2 hfew hx hcl hown
          go_wp2_with fail
          refine CA.out.mono ?_
          rintro en w6 ⟨A6, c6, n6, rfl, hn6, own6, hb6⟩
          have HB6 := Lib.hid (HB.out.trans hb6)
          cases f2 with
          | true =>
            go_wp2_with fail
            exact ⟨⟨i + 1, n6, c6, A6, o2, by omega, rfl, by go_num, by have h1 : o2.length ≤ m + 1 := HLE.out; have h2 : o2.length = n6 := hn6; omega, Lib.hid ⟨by first | exact HSN.out rfl | exact HSN.out trivial, hn6⟩, own6, HB6⟩, by simp only [intOf]; omega⟩
          | false =>
            have hre : r = ([], 3) := by rw [← HRO.out]; exact HFL.out rfl
            subst hre
            go_wp2_with fail
            go_ret2
            exact EdsPost.no (HB04.out.trans (HB6.out.mono HB04.out.size))
        · have hij' : decide ((i : Int) < (n : Int)) = false := by simp; omega
          obtain rfl : i = n := by omega
          have hre : r = (out, 0) := by
            have h1 := HO.out.1
            rw [List.take_of_length_le (by rw [HNX.out]; exact Nat.le_refl _)] at h1
            rw [← HRO.out, addOut, h1]
          subst hre
          go_wp2_with fail
          go_ret2
          obtain ⟨-, rfl⟩ := HO.out
          exact ⟨A', c', rfl, own_baseJ hown HB04.out.size, HB04.out.trans (HB.out.mono HB04.out.size)⟩
    · have hre : r = ([], 2) := by rw [← hr]; exact mergeOut_r hk2
      rw [(edChk_two l2).resolve_left hk2] at cc2
      subst hre
      go_wp2_with fail
      refine cc2.mono ?_
      rintro en w2 ⟨rfl, hb2⟩
      go_wp2_with fail
      go_ret2
      exact EdsPost.no (hb1.trans (hb2.mono hb1.size))
  · have hre : r = ([], 2) := by rw [← hr]; exact mergeOut_l hk1
    rw [(edChk_two l1).resolve_left hk1] at cc1
    subst hre
    go_enter Try.func27, Try.ntmps27
    go_wp2_with fail
    refine cc1.mono ?_
    rintro en w1 ⟨rfl, hb1⟩
    go_wp2_with fail
    go_ret2
    exact EdsPost.no hb1
set_option maxRecDepth 100000 in
set_option maxHeartbeats 8000000 in
theorem rDeBetween {A : Option Addr} {n c B : Nat} (l : List Ed) (p q : Nat) (w : World) (h : RbD w B A l) (hn : l.length = n) (hB : B ≤ w.heap.size) (hs : n ≤ 10000) (ho : ∀ e ∈ l, e.n < 18446744073709551616) :
    Calls Try.prog 28 #[.slice A n c, .int .u64 p, .int .u64 q] w (EdsPost w (betOut l p q)) := by
  have cc := rDeCheck (c := c) l w h hn hB (by omega)
  obtain ⟨r, hr⟩ : ∃ r, betOut l p q = r := ⟨_, rfl⟩
  rw [hr]
  rw [betOut] at hr
  have h2 := edChk_two l
  obtain ⟨ck, hck⟩ : ∃ ck, edChk l = ck := ⟨_, rfl⟩
  rw [hck] at cc hr h2
  have HR := Lib.hid hr
  have HN := Lib.hid hn
  have HH := Lib.hid h
  have HO0 := Lib.hid ho
  clear hr hn h hck ho
  go_enter Try.func28, Try.ntmps28
  go_wp2_with fail
  refine cc.mono ?_
  rintro en w5 ⟨rfl, hb5⟩
  by_cases h0 : ck = 0
  · subst h0
    have HRO := Lib.hid (show addOut (l.filterMap (betE p q)) = r by rw [← HR.out, if_neg (by simp)])
    clear HR h2 cc
    go_wp2_with fail
    go_loopw [9, 10] (fun out_ i_ wr => ∃ (i m c' : Nat) (A' : Option Addr) (out : List Ed), i ≤ n ∧ out_ = .slice A' m c' ∧ i_ = .int .i64 i ∧ m ≤ i ∧ Hid (addAll ((l.take i).filterMap (betE p q)) [] = some out ∧ out.length = m) ∧ wr.ownsRow w.heap.size 47 4 (.slice A' m c') m (eds out) ∧ Hid (Below w.heap.size w wr)) (fun _ i_ _ => n - (intOf i_).toNat)
    case atStart => exact ⟨0, 0, 0, none, [], by omega, rfl, rfl, by omega, Lib.hid ⟨rfl, rfl⟩, World.ownsRow_nil _ _ _ _, Lib.hid hb5⟩
    case round =>
      obtain ⟨i, m, c', A', out, hi, rfl, rfl, hm, HO, hown, HB⟩ := hrel
      by_cases hij : i < n
      · have hij' : (i : Int) < (n : Int) := by omega
        obtain ⟨x, hx⟩ : ∃ x, l[i]? = some x := ⟨_, List.getElem?_eq_getElem (by rw [HN.out]; exact hij)⟩
        obtain ⟨ob, oo, eA, k0, k1, k2, k3⟩ := RbD.cells (Rd.below HH.out (HB.out.mono hB)) hx
        subst eA
        have HX := Lib.hid hx
        have HOWN := Lib.hid hown
        have hnone : betE p q x = none → addAll ((l.take (i + 1)).filterMap (betE p q)) [] = some out := fun hz => by
          rw [take_snoc hx, List.filterMap_append, show [x].filterMap (betE p q) = [] by simp [hz], List.append_nil]
          exact HO.out.1
        have HNO := Lib.hid hnone
        clear hx hnone hown
        by_cases h1 : (x.b : Int) < (p : Int)
        · go_wp2_with fail
          exact ⟨⟨i + 1, m, c', A', out, by omega, rfl, by go_num, by omega, Lib.hid ⟨HNO.out (by rw [betE, if_neg (by omega)]), HO.out.2⟩, HOWN.out, HB⟩, by simp only [intOf]; omega⟩
        · have h1' : decide ((x.b : Int) < (p : Int)) = false := by simp; omega
          by_cases h2 : (q : Int) < (x.b : Int)
          · go_wp2_with fail
            exact ⟨⟨i + 1, m, c', A', out, by omega, rfl, by go_num, by omega, Lib.hid ⟨HNO.out (by rw [betE, if_neg (by omega)]), HO.out.2⟩, HOWN.out, HB⟩, by simp only [intOf]; omega⟩
          · have h2' : decide ((q : Int) < (x.b : Int)) = false := by simp; omega
            have hbe : betE p q x = some ⟨0, x.f, x.t, x.n⟩ := by rw [betE, if_pos (by omega)]
            have hbd := below_drewN (Below.refl wr.heap.size wr) 1
            have own1 := ((App.refl HOWN.out).later hbd).own
            have hfew := addAll_fewX HO.out.1
            have cadd := rDeAdd (base := w.heap.size) out ⟨0, x.f, x.t, x.n⟩ wr.drew own1 HO.out.2 (by omega) HB.out.size (HO0.out x (List.mem_of_getElem? HX.out)) (fun z hz => by have := hfew z hz; omega)
            have hsn : (addE ⟨0, x.f, x.t, x.n⟩ out).2 = true → addAll ((l.take (i + 1)).filterMap (betE p q)) [] = some (addE ⟨0, x.f, x.t, x.n⟩ out).1 := fun hf => by
              rw [take_snoc HX.out, List.filterMap_append, show [x].filterMap (betE p q) = [⟨0, x.f, x.t, x.n⟩] by simp [hbe], addAll_snoc HO.out.1, if_pos hf]
            have hfl : (addE ⟨0, x.f, x.t, x.n⟩ out).2 = false → addOut (l.filterMap (betE p q)) = ([], 3) := fun hf => by
              have h1 : addAll (l.filterMap (betE p q)) [] = none := by
                rw [← List.take_append_drop (i + 1) l, List.filterMap_append, addAll_app, take_snoc HX.out, List.filterMap_append, show [x].filterMap (betE p q) = [⟨0, x.f, x.t, x.n⟩] by simp [hbe], addAll_snoc HO.out.1, hf]
                rfl
              rw [addOut, h1]
            have hle := addE_lenU ⟨0, x.f, x.t, x.n⟩ out
            rw [HO.out.2] at hle
            obtain ⟨R2, hR2⟩ : ∃ R2, addE ⟨0, x.f, x.t, x.n⟩ out = R2 := ⟨_, rfl⟩
            rw [hR2] at cadd hsn hfl hle
            obtain ⟨o2, f2⟩ := R2
            have HSN := Lib.hid hsn
            have HFL := Lib.hid hfl
            have HLE := Lib.hid hle
            have CA := Lib.hid cadd
            have HBD := Lib.hid hbd
            have HC := Lib.hid (fun W (hW : Below w.heap.size w W) => show W.cell? ⟨ob, oo + i * 4 + 1, none⟩ = some (.string x.f) ∧ W.cell? ⟨ob, oo + i * 4 + 2, none⟩ = some (.string x.t) ∧ W.cell? ⟨ob, oo + i * 4 + 3, none⟩ = some (.int .u64 x.n) by
              obtain ⟨ob', oo', eA', -, q1, q2, q3⟩ := RbD.cells (Rd.below HH.out (hW.mono hB)) HX.out
              cases eA'
              exact ⟨q1, q2, q3⟩)
            obtain ⟨j1, j2, j3⟩ := HC.out wr.drew (HB.out.trans (hbd.mono HB.out.size))
            clear hsn hfl hle cadd hR2 hfew own1 hbd hbe
            go_wp2_with fail
            go_region_held3 (fun w' => w'.cell? ⟨ob, oo + i * 4 + 1, none⟩ = some (.string x.f) ∧ w'.cell? ⟨ob, oo + i * 4 + 2, none⟩ = some (.string x.t) ∧ w'.cell? ⟨ob, oo + i * 4 + 3, none⟩ = some (.int .u64 x.n)) (go_keep)
              (first
                | (go_at_call 38
                   refine CA.out.mono ?_
                   rintro en w6 ⟨A6, c6, n6, rfl, hn6, own6, hb6⟩
                   have HB6 := Lib.hid ((HB.out.trans (HBD.out.mono HB.out.size)).trans hb6)
                   obtain ⟨u1, u2, u3⟩ := HC.out w6 HB6.out)
                | fail)
            cases f2 with
            | true =>
              go_wp2_with fail
              exact ⟨⟨i + 1, n6, c6, A6, o2, by omega, rfl, by go_num, by have h1 : o2.length ≤ m + 1 := HLE.out; have h2 : o2.length = n6 := hn6; omega, Lib.hid ⟨by first | exact HSN.out rfl | exact HSN.out trivial, hn6⟩, own6, HB6⟩, by simp only [intOf]; omega⟩
            | false =>
              have hre : r = ([], 3) := by rw [← HRO.out]; exact HFL.out rfl
              subst hre
              go_wp2_with fail
              go_ret2
              exact EdsPost.no HB6.out
      · have hij' : decide ((i : Int) < (n : Int)) = false := by simp; omega
        obtain rfl : i = n := by omega
        have hre : r = (out, 0) := by
          have h1 := HO.out.1
          rw [List.take_of_length_le (by rw [HN.out]; exact Nat.le_refl _)] at h1
          rw [← HRO.out, addOut, h1]
        subst hre
        go_wp2_with fail
        go_ret2
        obtain ⟨-, rfl⟩ := HO.out
        exact ⟨A', c', rfl, hown, HB.out⟩
  · have h0' : ((ck : Int) != 0) = true := by simp; omega
    have hre : r = ([], ck) := by
      rcases h2 with h | h
      · exact absurd h h0
      · rw [← HR.out, if_pos h0, h]
    subst hre
    go_wp2_with fail
    go_ret2
    exact EdsPost.no hb5
end Go.Proofs.Ythaiplhjekkooaa

/- The document's Calls of layer 24. -/
namespace Go.Proofs.Ythaiplhjekkooaa
open Go.RowKit
theorem loadEd_shutD2 (a : Addr) : loadVar 47 a = loadK 47 a := rfl
attribute [local go_sem ↓] loadEd_shutD2

theorem Rs.get {w : World} {B : Nat} {A : Option Addr} {xs : List ByteArray} (h : Rd w B A (xs.map strV)) {i : Nat} {x : ByteArray} (hi : xs[i]? = some x) : ∃ b o, A = some ⟨b, o, none⟩ ∧ w.cell? ⟨b, o + i, none⟩ = some (.string x) := by
  obtain ⟨b, o, e, -, hc⟩ := Rd.get h (show (xs.map strV)[i]? = some (.string x) by rw [List.getElem?_map, hi]; rfl)
  exact ⟨b, o, e, hc⟩
set_option maxRecDepth 100000 in
theorem rDeIn {A : Option Addr} {n c B : Nat} (xs : List ByteArray) (x : ByteArray) (w : World) (h : Rd w B A (xs.map strV)) (hn : xs.length = n) (hnl : n ≤ 9223372036854775807) :
    Calls Try.prog 46 #[.slice A n c, .string x] w fun e w' => e = .returned (.bool (hasT x xs)) ∧ w' = w := by
  obtain ⟨r, hr⟩ : ∃ r, hasT x xs = r := ⟨_, rfl⟩
  rw [hr]
  have HR := Lib.hid hr
  have HN := Lib.hid hn
  have HH := Lib.hid h
  clear hr hn h
  go_enter Try.func46, Try.ntmps46
  go_wp2_with fail
  go_loopw [5] (fun i_ wr => ∃ i : Nat, i ≤ n ∧ i_ = .int .i64 i ∧ wr = w ∧ Hid (x ∉ xs.take i)) (fun i_ _ => n - (intOf i_).toNat)
  case atStart => exact ⟨0, by omega, rfl, rfl, Lib.hid (by simp)⟩
  case round =>
    obtain ⟨i, hi, rfl, rfl, HA⟩ := hrel
    by_cases hlt : i < n
    · have hlt' : (i : Int) < (n : Int) := by omega
      obtain ⟨y, hy⟩ : ∃ y, xs[i]? = some y := ⟨_, List.getElem?_eq_getElem (by rw [HN.out]; exact hlt)⟩
      obtain ⟨b, o, eA, hc⟩ := Rs.get HH.out hy
      subst eA
      have HY := Lib.hid hy
      clear hy
      by_cases h1 : y = x
      · have h1' : (y.toList == x.toList) = true := by rw [strEq_of', decide_eq_true h1]
        have hr1 : r = true := by rw [← HR.out, hasT_iff, ← h1]; exact List.mem_of_getElem? HY.out
        subst hr1
        have H1 := Lib.hid h1
        clear h1
        go_wp2_with fail
        go_ret
        exact ⟨rfl, rfl⟩
      · have h1' : (y.toList == x.toList) = false := by rw [strEq_of', decide_eq_false h1]
        have H1 := Lib.hid h1
        clear h1
        go_wp2_with fail
        exact ⟨⟨i + 1, by omega, by go_num, trivial, Lib.hid (by
          rw [take_snoc HY.out, List.mem_append, List.mem_singleton]
          rintro (h | h)
          · exact HA.out h
          · exact H1.out h.symm)⟩, by simp only [intOf]; omega⟩
    · have hlt' : decide ((i : Int) < (n : Int)) = false := by simp; omega
      have hr1 : r = false := by
        have h1 := HA.out
        rw [List.take_of_length_le (by rw [HN.out]; omega)] at h1
        rw [← HR.out, ← Bool.not_eq_true, hasT_iff]
        exact h1
      subst hr1
      go_wp2_with fail
      go_ret
      exact ⟨rfl, rfl⟩
/-- append of texts. -/
theorem wpList_appTx (w : World) {ops : Array Oper} {rest : List Oper} {o : Oper} {a : Act} {Q : Exit → Act → World → Prop} (hgd : o.guard = none) (s x : Operand)
    (ho : o.op = .call { callee := .builtin .append, args := #[s, x], argTypes := #[57, 57] })
    (base : Nat) (v : Value) (n : Nat) (l : List ByteArray) (hs : a.eval s = v) (hown : w.ownsRow base 9 1 v n (l.map strV))
    (B : Nat) (A : Option Addr) (m c : Nat) (news : List ByteArray) (hx : a.eval x = .slice A m c) (hl : news.length = m) (hr : Rd w B A (news.map strV))
    (hbytes : n + m ≤ 1048576) (hbase : base ≤ w.heap.size)
    (h : ∀ A' c' w', App base 9 1 w v w' (.slice A' (n + m) c') (n + m) ((l ++ news).map strV) → wpList Try.prog ops Q rest (a.put o.dst (.slice A' (n + m) c')) w') :
    wpList Try.prog ops Q (o :: rest) a w := by
  obtain ⟨i0, hi0, hz0, hz1, hz2⟩ := info_parts strinfo
  refine wpList_app w hgd s x _ ho base 9 i0 _ 1 16 Try.underlying57 hi0 hz0 hz1 hz2 rfl (by omega) v n (l.map strV) hs hown B A m c (news.map strV) hx (by rw [List.length_map]; omega) hr (fun u hu => by
    obtain ⟨y, -, rfl⟩ := List.mem_map.1 hu
    rfl) (by simp only [maxLen]; omega) (by omega) hbase ?_
  intro A' c' w' h1 h2 h3 h4
  rw [← List.map_append] at h1
  exact h A' c' w' ((App.refl hown).step h1 h2 h3)
/-! ### the insertion sort, plain -/
/-- The first i + 1 in order, but for that at k, which is not behind those behind it. -/
structure Ins (Y : List ByteArray) (i k : Nat) : Prop where
  a : ∀ p q x y, p < q → q ≤ i → p ≠ k → q ≠ k → Y[p]? = some x → Y[q]? = some y → strLt y x = false
  b : ∀ q x y, k < q → q ≤ i → Y[k]? = some x → Y[q]? = some y → strLt y x = false
def SortTo (Y : List ByteArray) (i : Nat) : Prop := ∀ p q x y, p < q → q < i → Y[p]? = some x → Y[q]? = some y → strLt y x = false
theorem Ins.start {Y : List ByteArray} {i : Nat} (h : SortTo Y i) : Ins Y i i :=
  ⟨fun p q x y hpq hq _ hqk => h p q x y hpq (by omega), fun q x y h1 h2 => by omega⟩
theorem Ins.done {Y : List ByteArray} {i k : Nat} (h : Ins Y i k) (hki : k ≤ i) (hk : ∀ j x y, k = j + 1 → Y[j]? = some x → Y[k]? = some y → strLt y x = false) (hl : i < Y.length) : SortTo Y (i + 1) := fun p q x y hpq hq hp hqy => by
  by_cases h1 : p = k
  · subst h1
    exact h.b q x y hpq (by omega) hp hqy
  by_cases h2 : q = k
  · subst h2
    obtain ⟨j, hj⟩ : ∃ j, q = j + 1 := ⟨q - 1, by omega⟩
    obtain ⟨z, hz⟩ : ∃ z, Y[j]? = some z := ⟨_, List.getElem?_eq_getElem (by omega)⟩
    have h3 := hk j z y hj hz hqy
    by_cases h4 : p = j
    · subst h4
      rw [hp] at hz
      cases hz
      exact h3
    · exact strLt_tr (h.a p j x z (by omega) (by omega) h1 (by omega) hp hz) h3
  · exact h.a p q x y hpq (by omega) h1 h2 hp hqy
theorem strLt_asym {a b : ByteArray} (h : strLt a b = true) : strLt b a = false := by
  rw [← Bool.not_eq_true, strLt_cmp1]
  rw [strLt_cmp1] at h
  have := cmpS_cmp.neg a b
  omega
theorem Ins.swap {Y : List ByteArray} {i j : Nat} {x y : ByteArray} (h : Ins Y i (j + 1)) (hji : j + 1 ≤ i) (hl : i < Y.length) (hx : Y[j]? = some x) (hy : Y[j + 1]? = some y) (hlt : strLt y x = true) : Ins ((Y.set (j + 1) x).set j y) i j := by
  have hget : ∀ p, ((Y.set (j + 1) x).set j y)[p]? = if p = j then some y else if p = j + 1 then some x else Y[p]? := fun p => by
    rw [List.getElem?_set, List.length_set]
    by_cases h1 : j = p
    · subst h1
      rw [if_pos rfl, if_pos rfl, if_pos (by omega)]
    · rw [if_neg h1, if_neg (Ne.symm h1), List.getElem?_set]
      by_cases h2 : j + 1 = p
      · subst h2
        rw [if_pos rfl, if_pos rfl, if_pos (by omega)]
      · rw [if_neg h2, if_neg (Ne.symm h2)]
  constructor
  · intro p q u v hpq hq hp hqk hu hv
    rw [hget, if_neg hp] at hu
    rw [hget, if_neg hqk] at hv
    by_cases h1 : p = j + 1
    · rw [if_pos h1] at hu
      rw [if_neg (by omega)] at hv
      cases hu
      exact h.a j q x v (by omega) hq (by omega) (by omega) hx hv
    · rw [if_neg h1] at hu
      by_cases h2 : q = j + 1
      · rw [if_pos h2] at hv
        cases hv
        exact h.a p j u x (by omega) (by omega) (by omega) (by omega) hu hx
      · rw [if_neg h2] at hv
        exact h.a p q u v hpq hq h1 h2 hu hv
  · intro q u v hq hqi hu hv
    rw [hget, if_pos rfl] at hu
    cases hu
    rw [hget, if_neg (by omega)] at hv
    by_cases h2 : q = j + 1
    · rw [if_pos h2] at hv
      cases hv
      exact strLt_asym hlt
    · rw [if_neg h2] at hv
      exact h.b q y v (by omega) hqi hy hv
theorem SortTo.sorted {Y : List ByteArray} (h : SortTo Y Y.length) : SortT Y :=
  List.pairwise_iff_getElem.2 fun i j hi hj hij => h i j _ _ hij hj (List.getElem?_eq_getElem hi) (List.getElem?_eq_getElem hj)
end Go.Proofs.Ythaiplhjekkooaa

/- The document's Calls of layer 24: the walk. -/
namespace Go.Proofs.Ythaiplhjekkooaa
open Go.RowKit
theorem loadEd_shutE2 (a : Addr) : loadVar 47 a = loadK 47 a := rfl
attribute [local go_sem ↓] loadEd_shutE2

theorem ownTx_len {w : World} {base n : Nat} {v : Value} {xs : List ByteArray} (h : w.ownsRow base 9 1 v n (xs.map strV)) : xs.length = n := by
  have := h.1
  rwa [List.length_map, Nat.mul_one] at this
set_option maxRecDepth 100000 in
set_option maxHeartbeats 16000000 in
theorem rDeCalls {A : Option Addr} {n c B : Nat} (l : List Ed) (s : ByteArray) (w : World) (h : RbD w B A l) (hn : l.length = n) (hB : B ≤ w.heap.size) (hs : n ≤ 10000) :
    Calls Try.prog 29 #[.slice A n c, .string s] w (CallsPost w l s) := by
  have cc := rDeCheck (c := c) l w h hn hB (by omega)
  have h2 := edChk_two l
  obtain ⟨ck, hck⟩ : ∃ ck, edChk l = ck := ⟨_, rfl⟩
  rw [hck] at cc h2
  have HCK := Lib.hid hck
  have HN := Lib.hid hn
  have HH := Lib.hid h
  clear hn h hck
  go_enter Try.func29, Try.ntmps29
  go_wp2_with fail
  refine cc.mono ?_
  rintro en w5 ⟨rfl, hb5⟩
  by_cases h0 : ck = 0
  · subst h0
    have HB5 := Lib.hid hb5
    clear h2 cc hb5
    go_wp2_with fail
    go_loopw [7, 8] (fun out_ n_ wr => ∃ (k m c' : Nat) (A' : Option Addr), k ≤ n + 1 ∧ out_ = .slice A' m c' ∧ n_ = .int .i64 k ∧ Hid (wr.ownsRow w.heap.size 9 1 (.slice A' m c') m ((pasN l s k).map strV)) ∧ Hid (Below w.heap.size w wr)) (fun _ n_ _ => n + 1 - (intOf n_).toNat)
    case atStart => exact ⟨0, 0, 0, none, by omega, rfl, rfl, Lib.hid (World.ownsRow_nil _ _ _ _), HB5⟩
    case round =>
      obtain ⟨k, m, c', A', hk, rfl, rfl, HO, HB⟩ := hrel
      by_cases hkn : k ≤ n
      · have hkn' : (k : Int) ≤ (n : Int) := by omega
        obtain ⟨out0, ho0⟩ : ∃ out0, pasN l s k = out0 := ⟨_, rfl⟩
        have hp0 := pasN_pas l s k
        rw [ho0] at HO hp0
        have HS0 := Lib.hid ho0
        have HP0 := Lib.hid hp0
        clear ho0 hp0
        go_wp2_with fail
        go_loopw [7, 9] (fun out_ i_ wr2 => ∃ (i m2 c2 : Nat) (A2 : Option Addr), i ≤ n ∧ out_ = .slice A2 m2 c2 ∧ i_ = .int .i64 i ∧ Hid (wr2.ownsRow w.heap.size 9 1 (.slice A2 m2 c2) m2 ((pasTo l s out0 i).map strV)) ∧ Hid (Below w.heap.size w wr2)) (fun _ i_ _ => n - (intOf i_).toNat)
        case atStart => exact ⟨0, m, c', A', by omega, rfl, rfl, HO, HB⟩
        case round =>
          obtain ⟨i, m2, c2, A2, hi, rfl, rfl, HO2, HB2⟩ := hrel
          by_cases hij : i < n
          · have hij' : (i : Int) < (n : Int) := by omega
            obtain ⟨e, he⟩ : ∃ e, l[i]? = some e := ⟨_, List.getElem?_eq_getElem (by rw [HN.out]; exact hij)⟩
            obtain ⟨b, o, eA, k0, k1, k2, k3⟩ := RbD.cells (Rd.below HH.out (HB2.out.mono hB)) he
            subst eA
            have hsn := pasTo_succ (s := s) (out := out0) he
            have hpp : Pas l s (pasTo l s out0 i) := Pas.fold (fun x hx => List.mem_of_mem_take hx) HP0.out
            have hml := ownTx_len HO2.out
            have hmn : m2 ≤ n := by rw [← hml, ← HN.out]; exact Rch.len hpp.nd hpp.rch
            obtain ⟨o2, ho2⟩ : ∃ o2, pasTo l s out0 i = o2 := ⟨_, rfl⟩
            rw [ho2] at HO2 hsn hml
            have HSN := Lib.hid hsn
            have HML := Lib.hid hml
            have hrd : Rd wr wr.heap.size A2 (o2.map strV) := Rd.of_own HO2.out
            have i1 := rDeIn (c := c2) o2 e.f wr hrd hml (by omega)
            have i2 := rDeIn (c := c2) o2 e.t wr hrd hml (by omega)
            have hpi : pasIf s o2 e = ((decide (e.f = s) || hasT e.f o2) && !hasT e.t o2) := rfl
            obtain ⟨bf, hbf⟩ : ∃ bf, hasT e.f o2 = bf := ⟨_, rfl⟩
            obtain ⟨bt, hbt⟩ : ∃ bt, hasT e.t o2 = bt := ⟨_, rfl⟩
            rw [hbf] at i1 hpi
            rw [hbt] at i2 hpi
            have I1 := Lib.hid i1
            have I2 := Lib.hid i2
            have HPI := Lib.hid hpi
            have hskip : pasIf s o2 e = false → pasTo l s out0 (i + 1) = o2 := fun hf => by rw [HSN.out, pasStep, if_neg (by rw [hf]; simp)]
            have HSK := Lib.hid hskip
            have hpush : pasIf s o2 e = true → pasTo l s out0 (i + 1) = o2 ++ [e.t] := fun hf => by rw [HSN.out, pasStep, if_pos hf]
            have HPU := Lib.hid hpush
            clear hsn hpp hml ho2 hrd i1 i2 hpi hbf hbt he hskip hpush
            by_cases h1 : e.f = s
            · have h1' : (e.f.toList == s.toList) = true := by rw [strEq_of', decide_eq_true h1]
              have H1 := Lib.hid h1
              clear h1
              cases bt with
              | true =>
                have HS2 := Lib.hid (HSK.out (by rw [HPI.out]; simp))
                go_wp2_with fail
                refine I2.out.mono ?_
                rintro en w' ⟨rfl, hw'⟩
                rw [hw']
                clear hw'
                go_wp2_with fail
                exact ⟨⟨i + 1, m2, c2, A2, by omega, rfl, by go_num, Lib.hid (by rw [HS2.out]; exact HO2.out), HB2⟩, by simp only [intOf]; omega⟩
              | false =>
                have HS2 := Lib.hid (HPU.out (by rw [HPI.out, decide_eq_true H1.out]; rfl))
                go_wp2_with fail
                refine I2.out.mono ?_
                rintro en w' ⟨rfl, hw'⟩
                rw [hw']
                clear hw'
                have own4 := (App.refl HO2.out).later ((Below.refl wr.heap.size wr).alloc (Nat.le_refl _) (.cells #[.string e.t] 9))
                go_wp2_with (at_builtin; go_loud (refine wpList_appTx _ rfl (.tmp 55) (.tmp 61) rfl w.heap.size _ m2 o2 rfl own4.own (wr.heap.size + 1) (some ⟨wr.heap.size, 0, none⟩) 1 1 [e.t] rfl rfl (Rd.lit wr #[.string e.t] 9) (by omega) (by have := HB2.out.size; simp; omega) ?_))
                intro A6 c6 w6 hap
                have hb6 : Below w.heap.size w w6 := (HB2.out.alloc HB2.out.size (.cells #[.string e.t] 9)).trans (hap.below (by have := HB2.out.size; simp; omega) (fun q hq => by
                  rcases own4.own.2 with ⟨h3, _⟩ | ⟨g, cap, cur, h3, hbase, _⟩
                  · rw [h3] at hq; cases hq
                  · rw [h3] at hq
                    have := Option.some.inj hq
                    simp only at this
                    omega))
                go_wp2_with fail
                exact ⟨⟨i + 1, m2 + 1, c6, A6, by omega, rfl, by go_num, Lib.hid (by rw [HS2.out, List.map_append]; exact hap.own), Lib.hid hb6⟩, by simp only [intOf]; omega⟩
            · have h1' : (e.f.toList == s.toList) = false := by rw [strEq_of', decide_eq_false h1]
              have H1 := Lib.hid h1
              clear h1
              cases bf with
              | false =>
                have HS2 := Lib.hid (HSK.out (by rw [HPI.out, decide_eq_false H1.out]; simp))
                go_wp2_with fail
                refine I1.out.mono ?_
                rintro en w' ⟨rfl, hw'⟩
                rw [hw']
                clear hw'
                go_wp2_with fail
                exact ⟨⟨i + 1, m2, c2, A2, by omega, rfl, by go_num, Lib.hid (by rw [HS2.out]; exact HO2.out), HB2⟩, by simp only [intOf]; omega⟩
              | true =>
              cases bt with
              | true =>
                have HS2 := Lib.hid (HSK.out (by rw [HPI.out]; simp))
                go_wp2_with fail
                refine I1.out.mono ?_
                rintro en w' ⟨rfl, hw'⟩
                rw [hw']
                clear hw'
                go_wp2_with fail
                refine I2.out.mono ?_
                rintro en w' ⟨rfl, hw'⟩
                rw [hw']
                clear hw'
                go_wp2_with fail
                exact ⟨⟨i + 1, m2, c2, A2, by omega, rfl, by go_num, Lib.hid (by rw [HS2.out]; exact HO2.out), HB2⟩, by simp only [intOf]; omega⟩
              | false =>
                have HS2 := Lib.hid (HPU.out (by rw [HPI.out]; simp))
                go_wp2_with fail
                refine I1.out.mono ?_
                rintro en w' ⟨rfl, hw'⟩
                rw [hw']
                clear hw'
                go_wp2_with fail
                refine I2.out.mono ?_
                rintro en w' ⟨rfl, hw'⟩
                rw [hw']
                clear hw'
                have own4 := (App.refl HO2.out).later ((Below.refl wr.heap.size wr).alloc (Nat.le_refl _) (.cells #[.string e.t] 9))
                go_wp2_with (at_builtin; go_loud (refine wpList_appTx _ rfl (.tmp 55) (.tmp 61) rfl w.heap.size _ m2 o2 rfl own4.own (wr.heap.size + 1) (some ⟨wr.heap.size, 0, none⟩) 1 1 [e.t] rfl rfl (Rd.lit wr #[.string e.t] 9) (by omega) (by have := HB2.out.size; simp; omega) ?_))
                intro A6 c6 w6 hap
                have hb6 : Below w.heap.size w w6 := (HB2.out.alloc HB2.out.size (.cells #[.string e.t] 9)).trans (hap.below (by have := HB2.out.size; simp; omega) (fun q hq => by
                  rcases own4.own.2 with ⟨h3, _⟩ | ⟨g, cap, cur, h3, hbase, _⟩
                  · rw [h3] at hq; cases hq
                  · rw [h3] at hq
                    have := Option.some.inj hq
                    simp only at this
                    omega))
                go_wp2_with fail
                exact ⟨⟨i + 1, m2 + 1, c6, A6, by omega, rfl, by go_num, Lib.hid (by rw [HS2.out, List.map_append]; exact hap.own), Lib.hid hb6⟩, by simp only [intOf]; omega⟩
          · have hij' : decide ((i : Int) < (n : Int)) = false := by simp; omega
            obtain rfl : i = n := by omega
            have hsu : pasTo l s out0 i = pasN l s (k + 1) := by rw [pasTo, List.take_of_length_le (by rw [HN.out]; exact Nat.le_refl _), pasN, HS0.out]
            rw [hsu] at HO2
            clear hsu
            go_wp2_with fail
            exact ⟨⟨k + 1, m2, c2, A2, by omega, rfl, by go_num, HO2, HB2⟩, by simp only [intOf]; omega⟩
      · have hkn' : decide ((k : Int) ≤ (n : Int)) = false := by simp; omega
        obtain rfl : k = n + 1 := by omega
        have hfull : Full l s (pasN l s (n + 1)) := by have := pasN_full l s; rwa [HN.out] at this
        have HFU := Lib.hid hfull
        obtain ⟨out, hout⟩ : ∃ out, pasN l s (n + 1) = out := ⟨_, rfl⟩
        rw [hout] at HO HFU
        have hml := ownTx_len HO.out
        have hmn : m ≤ n := by rw [← hml, ← HN.out]; exact Rch.len HFU.out.nd HFU.out.rch
        clear hfull hout hkn hkn' hk hml
        go_wp2_with fail
        go_loopw [10] (fun i_ wr2 => ∃ (i : Nat) (Y : List ByteArray), 1 ≤ i ∧ (i ≤ m ∨ i = 1) ∧ i_ = .int .i64 i ∧ Hid (Y.Perm out) ∧ Hid (SortTo Y i) ∧ Hid (wr2.ownsRow w.heap.size 9 1 (.slice A' m c') m (Y.map strV)) ∧ Hid (Below w.heap.size w wr2)) (fun i_ _ => m - (intOf i_).toNat)
        case atStart => exact ⟨1, out, by omega, .inr rfl, rfl, Lib.hid (List.Perm.refl _), Lib.hid (fun p q x y h1 h2 => by omega), HO, HB⟩
        case round =>
          obtain ⟨i, Y, hi1, him, rfl, HY, HSO, HOY, HBY⟩ := hrel
          by_cases hlt : i < m
          · have hlt' : (i : Int) < (m : Int) := by omega
            clear him
            go_wp2_with fail
            go_loopw [11] (fun k_ wr3 => ∃ (k : Nat) (Z : List ByteArray), k ≤ i ∧ k_ = .int .i64 k ∧ Hid (Z.Perm out) ∧ Hid (Ins Z i k) ∧ Hid (wr3.ownsRow w.heap.size 9 1 (.slice A' m c') m (Z.map strV)) ∧ Hid (Below w.heap.size w wr3)) (fun k_ _ => (intOf k_).toNat)
            case atStart => exact ⟨i, Y, by omega, rfl, HY, Lib.hid (Ins.start HSO.out), HOY, HBY⟩
            case round =>
              obtain ⟨k, Z, hki, rfl, HZ, HI, HOZ, HBZ⟩ := hrel
              have hzl := ownTx_len HOZ.out
              rcases Nat.eq_zero_or_pos k with hk0 | hk0
              · subst hk0
                have HST := Lib.hid (HI.out.done (by omega) (fun j x y h => by omega) (by omega))
                rw [show ((0 : Nat) : Int) = 0 from rfl]
                go_wp2_with fail
                go_quiet (fail)
                go_wp2_with fail
                exact ⟨⟨i + 1, Z, by omega, .inl (by omega), by go_num, HZ, HST, Lib.hid ((App.refl HOZ.out).later (below_drewN (Below.refl _ _) _)).own, Lib.hid (below_drewN HBZ.out _)⟩, by simp only [intOf]; omega⟩
              · obtain ⟨j, hkj⟩ : ∃ j, k = j + 1 := ⟨k - 1, by omega⟩
                obtain ⟨x, hx⟩ : ∃ x, Z[j]? = some x := ⟨_, List.getElem?_eq_getElem (by omega)⟩
                obtain ⟨y, hy⟩ : ∃ y, Z[k]? = some y := ⟨_, List.getElem?_eq_getElem (by omega)⟩
                obtain ⟨g, hA⟩ : ∃ g, A' = some ⟨g, 0, none⟩ := by
                  rcases HOZ.out.2 with ⟨h1, _⟩ | ⟨g, _, _, h1, _⟩
                  · injection h1 with e1 e2
                    omega
                  · injection h1 with e1
                    exact ⟨g, e1⟩
                subst hA
                have hrd : Rd wr wr.heap.size (some ⟨g, 0, none⟩) (Z.map strV) := Rd.of_own HOZ.out
                have hcx : wr.cell? ⟨g, j, none⟩ = some (.string x) := by
                  obtain ⟨b, o, e, hc⟩ := Rs.get hrd hx
                  cases e
                  rwa [Nat.zero_add] at hc
                have hcy : wr.cell? ⟨g, k, none⟩ = some (.string y) := by
                  obtain ⟨b, o, e, hc⟩ := Rs.get hrd hy
                  cases e
                  rwa [Nat.zero_add] at hc
                have hfz : ∀ q, wr.frozen? ⟨g, q, none⟩ = false := fun q => by
                  rcases HOZ.out.2 with ⟨h1, _⟩ | ⟨g', cap, cur, h1, _, hb, _⟩
                  · cases h1
                  · injection h1 with e1
                    injection e1 with e1
                    injection e1 with e1
                    subst e1
                    exact Bk.frozen (t := 9) (cs := cur) hb q
                have hk0' : (0 : Int) < (k : Int) := by omega
                have hk1' : (1 : Int) ≤ (k : Int) := by omega
                have hkm : (k : Int) < (m : Int) := by omega
                have hjm : (j : Int) < (m : Int) := by omega
                have h2i : (k : Int) - 1 < (m : Int) := by omega
                have h3i : (0 : Int) ≤ (k : Int) - 1 := by omega
                have h4i : ((k : Int) - 1).toNat = j := by omega
                have hwk : IntKind.i64.wrap ((k : Int) - 1) = (k : Int) - 1 := IntWalk.i64_in _ ⟨by omega, by omega⟩
                have hjk : j ≠ k := by omega
                have HKJ := Lib.hid hkj
                have HX := Lib.hid hx
                have HYY := Lib.hid hy
                have HZL := Lib.hid hzl
                obtain ⟨lt, hlt0⟩ : ∃ lt, Op.bytesLess y.toList x.toList = lt := ⟨_, rfl⟩
                have HLT := Lib.hid (show strLt y x = lt from hlt0)
                clear hkj hx hy hrd hzl
                cases lt with
                | false =>
                  have HST := Lib.hid (HI.out.done (by omega) (fun j' x' y' h1 h2 h3 => by
                    have hj' : j' = j := by have := HKJ.out; omega
                    subst hj'
                    rw [HX.out] at h2
                    rw [HYY.out] at h3
                    cases h2
                    cases h3
                    exact HLT.out) (by have := HZL.out; omega))
                  go_wp2_with fail
                  go_quiet (fail)
                  go_wp2_with fail
                  exact ⟨⟨i + 1, Z, by omega, .inl (by omega), by go_num, HZ, HST, Lib.hid ((App.refl HOZ.out).later (below_drewN (Below.refl _ _) _)).own, Lib.hid (below_drewN HBZ.out _)⟩, by simp only [intOf]; omega⟩
                | true =>
                  have hIS : Ins ((Z.set k x).set j y) i j := by
                    have h1 := HI.out
                    have h2 := HYY.out
                    have hkj := HKJ.out
                    subst hkj
                    exact h1.swap hki (by have := HZL.out; omega) HX.out h2 HLT.out
                  have hPM : ((Z.set k x).set j y).Perm out := by
                    refine List.Perm.trans ?_ HZ.out
                    obtain ⟨h1, h2⟩ := List.getElem?_eq_some_iff.1 HX.out
                    obtain ⟨h3, h4⟩ := List.getElem?_eq_some_iff.1 HYY.out
                    rw [← h2, ← h4, List.set_comm _ _ (by have := HKJ.out; omega)]
                    exact List.set_set_perm h1 h3
                  have HIS := Lib.hid hIS
                  have HPM := Lib.hid hPM
                  clear hIS hPM
                  go_wp2_with fail
                  go_quiet (fail)
                  have hbq := below_drewN (Below.refl wr.heap.size wr) nq
                  have HOQ := Lib.hid ((App.refl HOZ.out).later hbq).own
                  have HBQ := Lib.hid (HBZ.out.trans (hbq.mono HBZ.out.size))
                  have q1 : (wr.drewN nq).cell? ⟨g, j, none⟩ = some (.string x) := hcx
                  have q2 : (wr.drewN nq).cell? ⟨g, k, none⟩ = some (.string y) := hcy
                  have q3 : ∀ q, (wr.drewN nq).frozen? ⟨g, q, none⟩ = false := hfz
                  obtain ⟨WX, hWX⟩ : ∃ WX, wr.drewN nq = WX := ⟨_, rfl⟩
                  rw [hWX] at q1 q2 q3 HOQ HBQ ⊢
                  clear hWX hcx hcy hfz hbq HOZ HBZ
                  go_wp2_with fail
                  go_region
                  have hge : w.heap.size ≤ g := by
                    rcases HOQ.out.2 with ⟨h1, _⟩ | ⟨g', cap, cur, h1, hb, _⟩
                    · cases h1
                    · injection h1 with e1
                      injection e1 with e1
                      injection e1 with e1
                      subst e1
                      exact hb
                  have hap := ((App.refl HOQ.out).set k (.string x)).set j (.string y)
                  have hown := (hap.later (below_drewN (Below.refl _ _) 1)).own
                  rw [show ((Z.map strV).set k (.string x)).set j (.string y) = ((Z.set k x).set j y).map strV by rw [List.map_set, List.map_set]] at hown
                  have hg1 := grown_setCellQ WX g k (.string x)
                  have hg2 := grown_setCellQ (WX.setCell ⟨g, k, none⟩ (.string x)) g j (.string y)
                  have hb1 := HBQ.out.trans (below_grownJ hg1 HBQ.out.size (fun q hq => by have := Option.some.inj hq; omega))
                  have hb2 := hb1.trans (below_grownJ hg2 hb1.size (fun q hq => by have := Option.some.inj hq; omega))
                  have HOWN := Lib.hid hown
                  have HB2 := Lib.hid (below_drewN hb2 1)
                  clear hg1 hg2 hb1 hb2 hown hap q1 q2 q3
                  go_wp2_with fail
                  exact ⟨⟨j, (Z.set k x).set j y, by have := HKJ.out; omega, by have := HKJ.out; congr 1; omega, HPM, HIS, HOWN, HB2⟩, by have := HKJ.out; simp only [intOf]; omega⟩
          · have hlt' : decide ((i : Int) < (m : Int)) = false := by simp; omega
            have hyl := ownTx_len HOY.out
            have hst : SortTo Y Y.length := by
              rcases him with h | h
              · have : i = m := by omega
                subst this
                rw [hyl]
                exact HSO.out
              · intro p q x y hpq hq
                omega
            have hso := hst.sorted
            subst hyl
            go_wp2_with fail
            go_ret2
            exact .inr ⟨HCK.out, A', c', Y, ⟨hso, out, HFU.out, HY.out⟩, rfl, HOY.out, HBY.out⟩
  · have h0' : ((ck : Int) == 0) = false := by simp; omega
    have h0'' : ((ck : Int) != 0) = true := by simp; omega
    obtain rfl := h2.resolve_left h0
    go_wp2_with fail
    go_ret2
    exact .inl ⟨by rw [HCK.out]; exact h0, rfl, hb5⟩
end Go.Proofs.Ythaiplhjekkooaa

/- deps: is a span ahead of all time? slices.ContainsFunc with Edges' closure. -/
namespace Go.Proofs.Ythaiplhjekkooaa
open Go.RowKit
theorem loadAd_shutN (a : Addr) : loadVar 45 a = loadK 45 a := rfl
attribute [local go_sem ↓] loadAd_shutN

def negA (e : AE) : Bool := decide (e.a.s.start < 0)
/-- The first that p tells, or -1. -/
def idxA (p : AE → Bool) (l : List AE) : Int := match l.findIdx? p with | some i => (i : Int) | none => -1
theorem idxA_hit {p : AE → Bool} {l : List AE} {j : Nat} {x : AE} (h : (l.take j).any p = false) (hx : l[j]? = some x) (hp : p x = true) : idxA p l = j := by
  have hj := (List.getElem?_eq_some_iff.1 hx).1
  have : l.findIdx? p = some j := by
    rw [List.findIdx?_eq_some_iff_getElem]
    refine ⟨hj, by rw [(List.getElem?_eq_some_iff.1 hx).2]; exact hp, fun i hi => ?_⟩
    have h1 := List.any_eq_false.1 h (l[i]'(by omega)) (List.mem_of_getElem? (i := i) (by rw [List.getElem?_take, if_pos hi]; exact List.getElem?_eq_getElem _))
    simpa using h1
  rw [idxA, this]
theorem idxA_none {p : AE → Bool} {l : List AE} (h : l.any p = false) : idxA p l = -1 := by
  have : l.findIdx? p = none := by
    rw [List.findIdx?_eq_none_iff]
    intro x hx
    have := List.any_eq_false.1 h x hx
    simpa using this
  rw [idxA, this]
theorem idxA_any (p : AE → Bool) (l : List AE) : decide (0 ≤ idxA p l) = l.any p := by
  by_cases h : l.any p = true
  · rw [h, decide_eq_true_iff, idxA]
    cases hf : l.findIdx? p with
    | none =>
      rw [List.findIdx?_eq_none_iff] at hf
      obtain ⟨x, hx, hp⟩ := List.any_eq_true.1 h
      rw [hf x hx] at hp
      cases hp
    | some i => simp only; omega
  · have h : l.any p = false := by simpa using h
    rw [h, idxA_none h]
    rfl
theorem deNeg (e : AE) (w : World) : Calls Try.prog 33 #[adV e.a e.A e.n e.c] w fun en w' => en = .returned (.bool (negA e)) ∧ Below w.heap.size w w' := by
  have hb0 : Below w.heap.size w (w.alloc (.cells (adC e.a e.A e.n e.c) 45)) := (Below.refl _ w).alloc (Nat.le_refl _) _
  have HB := Lib.hid hb0
  clear hb0
  go_enter Try.func33, Try.ntmps33
  go_wp2_with fail
  go_ret
  exact ⟨rfl, HB.out⟩
set_option maxHeartbeats 1000000 in
theorem deIndexNeg {A : Option Addr} {c n B : Nat} {l : List AE} (w : World) (hf : RbA w B A l) (hn : l.length = n) (hB : B ≤ w.heap.size) (hnl : n ≤ 9223372036854775807) :
    Calls Try.prog 49 #[.slice A n c, .func (.func 33) #[] #[]] w fun e w' => e = .returned (.int .i64 (idxA negA l)) ∧ Below w.heap.size w w' := by
  have HN := Lib.hid hn
  obtain ⟨q, hq⟩ : ∃ q, idxA negA l = q := ⟨_, rfl⟩
  rw [hq]
  have HQ := Lib.hid hq
  have HF := Lib.hid hf
  clear hn hq hf
  go_enter Try.func49, Try.ntmps49
  go_wp2_with fail
  go_loopw [8] (fun iv_ wr => ∃ j : Nat, j ≤ n ∧ iv_ = .int .i64 j ∧ Hid ((l.take j).any negA = false) ∧ Below w.heap.size w wr) (fun i _ => n - (intOf i).toNat)
  case atStart => exact ⟨0, by omega, rfl, Lib.hid rfl, Below.refl _ _⟩
  case round =>
    obtain ⟨j, hj, rfl, HA, hb⟩ := hrel
    by_cases hlt : j < n
    · have hlt' : (j : Int) < (n : Int) := by omega
      obtain ⟨x, hx⟩ : ∃ x, l[j]? = some x := ⟨_, List.getElem?_eq_getElem (by rw [HN.out]; exact hlt)⟩
      obtain ⟨b, o, rfl, hbb, h1, h2⟩ := (HF.out.below (hb.mono hB)).get hx
      have hld := loadK_ae h1
      have HX := Lib.hid hx
      have hcl := deNeg x wr
      obtain ⟨t, ht⟩ : ∃ t, negA x = t := ⟨_, rfl⟩
      rw [ht] at hcl
      have HT := Lib.hid ht
      clear hx h1 h2 ht
      cases t with
      | true =>
        go_wp2_with (go_at_call 33; refine hcl.mono ?_; rintro e w' ⟨rfl, hb'⟩)
        go_ret
        have hqt : q = (j : Int) := by
          rw [← HQ.out]
          exact idxA_hit HA.out HX.out HT.out
        exact ⟨by rw [hqt]; rfl, hb.trans (hb'.mono hb.size)⟩
      | false =>
        go_wp2_with (go_at_call 33; refine hcl.mono ?_; rintro e w' ⟨rfl, hb'⟩)
        exact ⟨⟨j + 1, by omega, by go_num, Lib.hid (by rw [take_snoc HX.out, List.any_append, HA.out]; simp [HT.out]), hb.trans (hb'.mono hb.size)⟩, by simp only [intOf]; omega⟩
    · have hlt' : decide ((j : Int) < (n : Int)) = false := by simp; omega
      go_wp2_with fail
      go_ret
      have : q = -1 := by
        rw [← HQ.out]
        have h1 := HA.out
        rw [List.take_of_length_le (by rw [HN.out]; omega)] at h1
        exact idxA_none h1
      exact ⟨by rw [this]; rfl, hb⟩
theorem deHasNeg {A : Option Addr} {c n B : Nat} {l : List AE} (w : World) (hf : RbA w B A l) (hn : l.length = n) (hB : B ≤ w.heap.size) (hnl : n ≤ 9223372036854775807) :
    Calls Try.prog 32 #[.slice A n c, .func (.func 33) #[] #[]] w fun e w' => e = .returned (.bool (l.any negA)) ∧ Below w.heap.size w w' := by
  have hc := deIndexNeg (c := c) w hf hn hB hnl
  have ha := idxA_any negA l
  obtain ⟨q, hq⟩ : ∃ q, idxA negA l = q := ⟨_, rfl⟩
  rw [hq] at hc ha
  rw [← ha]
  have HC := Lib.hid hc
  clear hc hq ha
  go_enter Try.func32, Try.ntmps32
  go_wp2_with (go_at_call 49; refine HC.out.mono ?_; rintro e w' ⟨rfl, hb'⟩)
  go_ret
  exact ⟨rfl, hb'⟩
end Go.Proofs.Ythaiplhjekkooaa

/- deps: what Edges of the code does, plain. -/
namespace Go.Proofs.Ythaiplhjekkooaa
open Go.RowKit

abbrev idV (n : Nat) : Value := .int .u64 n
abbrev spvE (e : AE) : Value := spV e.a.s e.A e.n e.c
/-- The spans by their IDs. -/
def atTo (l : List AE) : List (Nat × AE) := l.foldl (fun M e => mgPut e.a.s.id e M) []
theorem atTo_snoc (l : List AE) (e : AE) : atTo (l ++ [e]) = mgPut e.a.s.id e (atTo l) := by simp [atTo]
/-- A span's call. -/
def callC (size : Int) (M : List (Nat × AE)) (x : AE) : Option Ed :=
  match mgGet x.a.up M with
  | some y => if y.a.s.service ≠ x.a.s.service then some ⟨(bktOf x.a.s.start size).1, y.a.s.service, x.a.s.service, 1⟩ else none
  | none => none
def callsC (size : Int) (l : List AE) : List Ed := l.filterMap (callC size (atTo l))
theorem callC_one {size : Int} {M : List (Nat × AE)} {x : AE} {e : Ed} (h : callC size M x = some e) : e.n = 1 := by
  unfold callC at h
  split at h
  · split at h
    · injection h with h; rw [← h]
    · cases h
  · cases h
theorem mgAll_few {xs : List Ed} : ∀ {M : List (Ek × Nat)} {c : Nat}, (∀ x ∈ xs, x.n = 1) → (∀ p ∈ M, p.2 ≤ c) → (M.map (·.1)).Nodup → ∀ p ∈ mgAll xs M, p.2 ≤ c + xs.length := by
  induction xs with
  | nil => intro M c _ h _ p hp; exact h p hp
  | cons x xs ih =>
    intro M c h1 h2 hn p hp
    have h3 : ∀ p ∈ addK (edK x) x.n M, p.2 ≤ c + 1 := fun p hp => by
      rcases (mgPut_mem hn p).1 hp with ⟨h4, _⟩ | rfl
      · have := h2 p h4; omega
      · show min ((mgGet (edK x) M).getD 0) 4611686018427387905 + min x.n 4611686018427387905 ≤ c + 1
        have h5 := h1 x (List.mem_cons_self ..)
        have h6 : (mgGet (edK x) M).getD 0 ≤ c := by
          cases hg : mgGet (edK x) M with
          | none => exact Nat.zero_le _
          | some v => exact h2 _ (mgGet_mem hg)
        omega
    have := ih (fun y hy => h1 y (List.mem_cons_of_mem _ hy)) h3 (mgPut_nodup hn) p hp
    simp only [List.length_cons]
    omega
/-- What Edges of the code hands back. -/
def EdgC (l : List AE) (size : Int) (w : World) (e : Ending) (w' : World) : Prop :=
  Below w.heap.size w w' ∧
  ((size < 1 ∨ (atTo l).length ≠ l.length ∨ l.any negA = true) ∧ e = .returned (.tuple #[.slice none 0 0, .int .i64 2]) ∨
   ¬ (size < 1 ∨ (atTo l).length ≠ l.length ∨ l.any negA = true) ∧
    (spErr (l.map (·.a.s)) ≠ 0 ∧ e = .returned (.tuple #[.slice none 0 0, .int .i64 (spErr (l.map (·.a.s)))]) ∨
     spErr (l.map (·.a.s)) = 0 ∧ ∃ A c n out, out.Perm ((mgAll (callsC size l) []).map mkEd) ∧ SortEd out ∧ out.length = n ∧ e = .returned (.tuple #[.slice A n c, .int .i64 0]) ∧ w'.ownsRow w.heap.size 47 4 (.slice A n c) n (eds out)))
end Go.Proofs.Ythaiplhjekkooaa

/- Spans: Check of a span whose head is not right; Check of any span. -/
namespace Go.Proofs.Ythaiplhjekkooaa
open Go.RowKit

set_option maxRecDepth 100000 in
set_option maxHeartbeats 8000000 in
/-- Check of a span that is not too long and whose head is not right. -/
theorem spCheck0 {A : Option Addr} {c n B : Nat} (s : Sp) (w : World) (hf : RbT w B A s.tags) (hn : s.tags.length = n) (hB : B ≤ w.heap.size) (hnl : n ≤ 9223372036854775807) (hlong : longB s = false) (hhead : headB s = false) :
    Calls Try.prog 34 #[spV s A n c] w fun e w' => e = .returned (.int .i64 2) ∧ Below w.heap.size w w' := by
  have hb0 : Below w.heap.size w (w.alloc (.cells (spC s A n c) 43)) := (Below.refl _ w).alloc (Nat.le_refl _) _
  have hf1 := Rd.alloc hf hB (.cells (spC s A n c) 43)
  have bk := Bk.new w 43 (spC s A n c)
  have hs1 : (w.alloc (.cells (spC s A n c) 43)).heap.size = w.heap.size + 1 := by simp
  obtain ⟨w1, hw1⟩ : ∃ w1, w.alloc (.cells (spC s A n c) 43) = w1 := ⟨_, rfl⟩
  rw [hw1] at hb0 hf1 bk hs1
  have HW := Lib.hid hw1
  have hc := spLong (c := c) s w1 hf1 hn (by omega) hnl
  rw [hlong] at hc
  have HC := Lib.hid hc
  have HN := Lib.hid hn
  clear hw1 hc hn hlong
  have hcase : (s.hi = 0 ∧ s.lo = 0) ∨ ((s.hi ≠ 0 ∨ s.lo ≠ 0) ∧ (s.id = 0 ∨ s.id ≠ 0 ∧ (nameB s.service = false ∨ nameB s.service = true ∧ (nameB s.name = false ∨ nameB s.name = true ∧ (decide (0 ≤ s.kind) = false ∨ 0 ≤ s.kind ∧ (decide (s.kind ≤ 5) = false ∨ s.kind ≤ 5 ∧
      (decide (0 ≤ s.start) = false ∨ 0 ≤ s.start ∧ (decide (0 ≤ s.length) = false ∨ 0 ≤ s.length ∧ (decide (s.start ≤ 4611686018427387903) = false ∨ s.start ≤ 4611686018427387903 ∧ decide (s.length ≤ 4611686018427387903 - s.start) = false))))))))) := by
    by_cases a0 : s.hi = 0 ∧ s.lo = 0
    · exact .inl a0
    refine .inr ⟨by omega, ?_⟩
    by_cases a1 : s.id = 0
    · exact .inl a1
    refine .inr ⟨a1, ?_⟩
    cases a2 : nameB s.service with
    | false => exact .inl rfl
    | true =>
    refine .inr ⟨rfl, ?_⟩
    cases a3 : nameB s.name with
    | false => exact .inl rfl
    | true =>
    refine .inr ⟨rfl, ?_⟩
    by_cases a4 : 0 ≤ s.kind
    case neg => exact .inl (by simpa using a4)
    refine .inr ⟨a4, ?_⟩
    by_cases a5 : s.kind ≤ 5
    case neg => exact .inl (by simpa using a5)
    refine .inr ⟨a5, ?_⟩
    by_cases a6 : 0 ≤ s.start
    case neg => exact .inl (by simpa using a6)
    refine .inr ⟨a6, ?_⟩
    by_cases a7 : 0 ≤ s.length
    case neg => exact .inl (by simpa using a7)
    refine .inr ⟨a7, ?_⟩
    by_cases a8 : s.start ≤ 4611686018427387903
    case neg => exact .inl (by simpa using a8)
    refine .inr ⟨a8, ?_⟩
    by_cases a9 : s.length ≤ 4611686018427387903 - s.start
    case neg => simpa using a9
    have : headB s = true := by
      simp only [headB, a2, a3, Bool.and_eq_true, Bool.or_eq_true, decide_eq_true_eq, ne_eq]
      exact ⟨⟨⟨⟨⟨⟨⟨⟨⟨by omega, a1⟩, trivial⟩, trivial⟩, a4⟩, a5⟩, a6⟩, a7⟩, a8⟩, a9⟩
    rw [hhead] at this
    cases this
  have HCASE := Lib.hid hcase
  clear hcase hhead
  go_enter Try.func34, Try.ntmps34
  go_wp2_with fail
  rw [HW.out]
  refine HC.out.mono ?_
  rintro e w2 ⟨rfl, hb2⟩
  have hs2 := hb2.size
  have hb02 := hb0.trans (hb2.mono (by omega))
  have hf2 := (Rd.below hf1 (hb2.mono (by omega))).more (show B ≤ w2.heap.size by omega)
  have bk2 := bk.below hb2 (by omega)
  obtain ⟨g, hg⟩ : ∃ g, w.heap.size = g := ⟨_, rfl⟩
  rw [hg] at bk2 ⊢
  have k0 : w2.cell? ⟨g, 0, none⟩ = some (.int .u64 s.hi) := bk2.cell 0
  have k1 : w2.cell? ⟨g, 1, none⟩ = some (.int .u64 s.lo) := bk2.cell 1
  have k2 : w2.cell? ⟨g, 2, none⟩ = some (.int .u64 s.id) := bk2.cell 2
  have k4 : w2.cell? ⟨g, 4, none⟩ = some (.string s.service) := bk2.cell 4
  have k5 : w2.cell? ⟨g, 5, none⟩ = some (.string s.name) := bk2.cell 5
  have k6 : w2.cell? ⟨g, 6, none⟩ = some (.int .i64 s.kind) := bk2.cell 6
  have k7 : w2.cell? ⟨g, 7, none⟩ = some (.int .i64 s.start) := bk2.cell 7
  have k8 : w2.cell? ⟨g, 8, none⟩ = some (.int .i64 s.length) := bk2.cell 8
  have k10 : w2.cell? ⟨g, 10, none⟩ = some (.slice A n c) := bk2.cell 10
  clear bk hf1 hb0 HW
  have HHS := Lib.hid hs2
  have HH1 := Lib.hid hs1
  have HHB := Lib.hid hB
  have HHG := Lib.hid hg
  have HB02 := Lib.hid hb02
  have HF2 := Lib.hid hf2
  have HBK := Lib.hid bk2
  clear hs2 hs1 hB hg hb02 hf2 bk2 hf hb2
  have hcase := HCASE.out
  clear HCASE
  rcases hcase with ⟨a0, a0'⟩ | ⟨a0, a1 | ⟨a1, a2 | ⟨a2, a3 | ⟨a3, a4 | ⟨a4, a5 | ⟨a5, a6 | ⟨a6, a7 | ⟨a7, a8 | ⟨a8, a9⟩⟩⟩⟩⟩⟩⟩⟩⟩
  all_goals first
    | (have d1 : ((s.id : Int) != 0) = true := by rw [bne_iff_ne]; omega)
    | (have d1 : ((s.id : Int) != 0) = false := by rw [a1]; rfl)
    | skip
  all_goals go_wp2_with (first
    | (go_at_call 51; refine (spName _ _).mono ?_; rintro e w' ⟨rfl, hw⟩; rw [hw]; clear hw w'; first | rw [a2] | rw [a3]))
  all_goals
    go_loopw [3, 63] (fun fv iv_ wr => ∃ j : Nat, j ≤ n ∧ iv_ = .int .i64 j ∧ fv = .bool false ∧ Below w2.heap.size w2 wr) (fun _ i _ => n - (intOf i).toNat)
    case atStart => exact ⟨0, by omega, rfl, rfl, Below.refl _ _⟩
    case round =>
      obtain ⟨j, hj, rfl, rfl, hb⟩ := hrel
      have hgl : g < w2.heap.size := by have := HHG.out; have := HHS.out; have := HH1.out; omega
      by_cases hlt : j < n
      · have hlt' : (j : Int) < (n : Int) := by omega
        obtain ⟨x, hx⟩ : ∃ x, s.tags[j]? = some x := ⟨_, List.getElem?_eq_getElem (by rw [HN.out]; exact hlt)⟩
        have hRb : Rd wr w2.heap.size A (tgs s.tags) := (Rd.more HF2.out (Nat.le_refl _)).below hb
        obtain ⟨b, o, rfl, hbb, c1, c2⟩ := RbT.get hRb hx
        have k10' : wr.cell? ⟨g, 10, none⟩ = some (.slice (some ⟨b, o, none⟩) n c) := (hb.cell (p := ⟨g, 10, none⟩) hgl).trans k10
        have HX := Lib.hid hx
        clear hx
        go_wp2_with fail
        have hbW := hb.alloc hb.size (.cells #[.string x.key, .string x.val] 90)
        obtain ⟨W, hW⟩ : ∃ W, wr.alloc (.cells #[.string x.key, .string x.val] 90) = W := ⟨_, rfl⟩
        rw [hW] at hbW ⊢
        have HBW := Lib.hid hbW
        clear hW hbW hRb hb hgl c1 c2 k10'
        go_quiet (fail)
        go_wp2
        go_roundw
        case rel => exact ⟨j + 1, by omega, by go_num, rfl, below_drewN HBW.out _⟩
        case measure => simp [intOf]; omega
      · have hlt' : decide ((j : Int) < (n : Int)) = false := by simp; omega
        go_wp2
        go_ret
        exact ⟨rfl, HB02.out.trans (hb.mono (by have := HHS.out; have := HH1.out; omega))⟩

set_option maxHeartbeats 400000 in
/-- Check of any span. -/
theorem spCheck {A : Option Addr} {c n B : Nat} (s : Sp) (w : World) (hf : RbT w B A s.tags) (hn : s.tags.length = n) (hB : B ≤ w.heap.size) (hnl : n ≤ 9223372036854775807) :
    Calls Try.prog 34 #[spV s A n c] w fun e w' => e = .returned (.int .i64 (spChk s)) ∧ Below w.heap.size w w' := by
  cases hl : longB s with
  | true =>
    have hr : spChk s = 3 := by rw [spChk, if_pos hl]
    rw [hr]
    have hf1 := Rd.alloc hf hB (.cells (spC s A n c) 43)
    have hb0 : Below w.heap.size w (w.alloc (.cells (spC s A n c) 43)) := (Below.refl _ w).alloc (Nat.le_refl _) _
    have hc := spLong (c := c) s _ hf1 hn (by simp; omega) hnl
    rw [hl] at hc
    have HC := Lib.hid hc
    clear hc hl
    go_enter Try.func34, Try.ntmps34
    go_wp2_with fail
    refine HC.out.mono ?_
    rintro e w2 ⟨rfl, hb2⟩
    go_wp2
    go_ret
    exact ⟨rfl, hb0.trans (hb2.mono (by simp))⟩
  | false =>
    cases hh : headB s with
    | false =>
      have hr : spChk s = 2 := by rw [spChk, hl, hh]; rfl
      rw [hr]
      exact spCheck0 s w hf hn hB hnl hl hh
    | true =>
      have hr : spChk s = if tagsOk s.tags n = true then 0 else 2 := by rw [spChk, hl, hh, hn]; rfl
      rw [hr]
      exact spCheck1 s w hf hn hB hnl hl hh
end Go.Proofs.Ythaiplhjekkooaa

/- deps: Edges. -/
namespace Go.Proofs.Ythaiplhjekkooaa
open Go.RowKit Go.MapKept
theorem loadSp_shutO (a : Addr) : loadVar 43 a = loadK 43 a := rfl
theorem loadAd_shutO (a : Addr) : loadVar 45 a = loadK 45 a := rfl
attribute [local go_sem ↓] loadSp_shutO loadAd_shutO
set_option maxRecDepth 100000 in
theorem loadK_adSpB {w : World} {g : Nat} {e : AE} (h : Bk w g 45 (adC e.a e.A e.n e.c)) : (loadK 43 ⟨g, 0, none⟩).run Try.prog w = .ok (spvE e) w :=
  run_loadVar_cells w _ _ ⟨g, 0, none⟩ (spC e.a.s e.A e.n e.c).toList Try.underlying43 rfl (by rfl) (fun j v hv => by
    have hj : j < 11 := (List.getElem?_eq_some_iff.1 hv).1
    rw [Addr.add_lit, Nat.zero_add, h.cell j, ← hv]
    have : j = 0 ∨ j = 1 ∨ j = 2 ∨ j = 3 ∨ j = 4 ∨ j = 5 ∨ j = 6 ∨ j = 7 ∨ j = 8 ∨ j = 9 ∨ j = 10 := by omega
    rcases this with rfl | rfl | rfl | rfl | rfl | rfl | rfl | rfl | rfl | rfl | rfl <;> rfl)
theorem idRun : KeyRun Try.prog 29 idV := intRun Try.underlying29
set_option maxRecDepth 100000 in
set_option maxHeartbeats 8000000 in
theorem deEdges {A : Option Addr} {n c B : Nat} (l : List AE) (size : Int) (w : World) (h : RbA w B A l) (hn : l.length = n) (hB : B ≤ w.heap.size) (hnl : n ≤ 200) (hs0 : -9223372036854775808 ≤ size) (hs1 : size ≤ 9223372036854775807)
    (hst : ∀ e ∈ l, e.a.s.start ≤ 9223372036854775807 ∧ -9223372036854775808 ≤ e.a.s.start) :
    Calls Try.prog 10 #[.slice A n c, .int .i64 size] w (EdgC l size w) := by
  have hb0 : Below w.heap.size w (w.alloc (.map #[] 0)) := (Below.refl _ w).alloc (Nat.le_refl _) _
  have m0 := Mg.new (kv := idV) (vv := spvE) w
  obtain ⟨w1, hw1⟩ : ∃ w1, w.alloc (.map #[] 0) = w1 := ⟨_, rfl⟩
  obtain ⟨b, hb⟩ : ∃ b, w.heap.size = b := ⟨_, rfl⟩
  rw [hw1] at hb0 m0
  rw [hb] at m0
  have HP := Lib.hid (show EdgC l size w = EdgC l size w from rfl)
  have HW := Lib.hid hw1
  have HG := Lib.hid hb
  have HN := Lib.hid hn
  have HST := Lib.hid hst
  have HH := Lib.hid h
  have HM0 := Lib.hid m0
  have HB0 := Lib.hid hb0
  clear hw1 hb hn hst h m0 hb0
  have hmm := @run_makeMap Try.prog
  go_enter Try.func10, Try.ntmps10
  go_wp2_with fail
  rw [HW.out, HG.out]
  go_loopw [24] (fun i_ wr => ∃ i : Nat, i ≤ n ∧ i_ = .int .i64 i ∧ Hid (Mg idV spvE wr b (atTo (l.take i))) ∧ Hid (Below w.heap.size w wr)) (fun i_ _ => n - (intOf i_).toNat)
  case atStart => exact ⟨0, by omega, rfl, HM0, HB0⟩
  case round =>
    obtain ⟨i, hi, rfl, HM, HB⟩ := hrel
    by_cases hlt : i < n
    · have hlt' : (i : Int) < (n : Int) := by omega
      obtain ⟨x, hx⟩ : ∃ x, l[i]? = some x := ⟨_, List.getElem?_eq_getElem (by rw [HN.out]; exact hlt)⟩
      obtain ⟨ob, oo, eA, hbb, hc, hok⟩ := (HH.out.below (HB.out.mono hB)).get hx
      subst eA
      have hld := loadK_ae hc
      have HX := Lib.hid hx
      have bk := Bk.new wr 45 (adC x.a x.A x.n x.c)
      have hsp := loadK_adSpB bk
      have HM2 := Lib.hid (HM.out.alloc (.cells (adC x.a x.A x.n x.c) 45))
      have HB2 := Lib.hid (HB.out.alloc HB.out.size (.cells (adC x.a x.A x.n x.c) 45))
      clear hx hc hok bk
      go_wp2_with (first
        | (refine wpList_mgPut _ rfl (.tmp 28) (.tmp 31) (.tmp 33) 63 rfl idRun Try.underlying63 b _ rfl HM2.out x.a.s.id x rfl rfl ?_
           rintro w3 hm3 hg3 hs3)
        | fail)
      exact ⟨⟨i + 1, by omega, by go_num, Lib.hid (by rw [take_snoc HX.out, atTo_snoc]; exact hm3), Lib.hid (HB2.out.trans (below_grownJ hg3 HB2.out.size (fun j hj => by have h1 := Option.some.inj hj; have h2 := HG.out; omega)))⟩, by simp only [intOf]; omega⟩
    · have hlt' : decide ((i : Int) < (n : Int)) = false := by simp; omega
      obtain rfl : i = n := by omega
      have hm := HM.out
      rw [List.take_of_length_le (by rw [HN.out]; omega)] at hm
      obtain ⟨M, hMM⟩ : ∃ M, atTo l = M := ⟨_, rfl⟩
      rw [hMM] at hm
      have HMM := Lib.hid hMM
      have hlen := run_mgLen (P := Try.prog) Try.underlying63 hm
      obtain ⟨q, hq⟩ : ∃ q, M.length = q := ⟨_, rfl⟩
      rw [hq] at hlen
      have HQ := Lib.hid hq
      have hlenF : Hid (∀ W, Mg idV spvE W b M → ∀ ty, (Builtin.len_ #[63] ty #[.map (some b)]).run Try.prog W = .ok (.int .i64 q) W) := Lib.hid fun W hW ty => by rw [← HQ.out]; exact run_mgLen Try.underlying63 hW ty
      have HMg := Lib.hid hm
      clear hMM hq HM hm hlt'
      by_cases hz : size < 1
      · have hz' : decide (size < 1) = true := by simp [hz]
        go_wp2_with fail
        go_ret2
        exact ⟨HB.out, .inl ⟨.inl hz, rfl⟩⟩
      have hz' : decide (size < 1) = false := by simp; omega
      by_cases hqn : q = i
      · have hqn' : ((q : Int) != (i : Int)) = false := by simp; omega
        have hneg := deHasNeg (c := c) wr (HH.out.below (HB.out.mono hB)) HN.out (Nat.le_trans hB HB.out.size) (by omega)
        obtain ⟨ng, hng⟩ : ∃ ng, l.any negA = ng := ⟨_, rfl⟩
        rw [hng] at hneg
        have HNG := Lib.hid hng
        clear hng
        cases ng with
        | true =>
          go_wp2_with (go_at_call 32; refine hneg.mono ?_; rintro en w4 ⟨rfl, hb4⟩)
          go_ret2
          exact ⟨HB.out.trans (hb4.mono HB.out.size), .inl ⟨.inr (.inr HNG.out), rfl⟩⟩
        | false =>
          have HNB := Lib.hid (show ¬ (size < 1 ∨ (atTo l).length ≠ l.length ∨ l.any negA = true) by
            rw [HMM.out, HQ.out, HN.out, HNG.out]
            rintro (h1 | h1 | h1)
            · exact hz h1
            · exact h1 hqn
            · cases h1)
          go_wp2_with (go_at_call 32; refine hneg.mono ?_; rintro en w4 ⟨rfl, hb4⟩)
          have HB4 := Lib.hid (HB.out.trans (hb4.mono HB.out.size))
          have HM4 := Lib.hid (HMg.out.bS hb4)
          clear hlen hneg hb4 HMg HB hqn' hqn hlenF
          go_loopw [50] (fun i_ wr2 => ∃ j : Nat, j ≤ i ∧ i_ = .int .i64 j ∧ Hid (spErr (l.map (·.a.s)) = spErr ((l.map (·.a.s)).drop j)) ∧ Hid (Mg idV spvE wr2 b M) ∧ Hid (Below w.heap.size w wr2)) (fun i_ _ => i - (intOf i_).toNat)
          case atStart => exact ⟨0, by omega, rfl, Lib.hid rfl, HM4, HB4⟩
          case round =>
            obtain ⟨j, hj, rfl, HS, HM, HB⟩ := hrel
            by_cases hlt : j < i
            · have hlt' : (j : Int) < (i : Int) := by omega
              obtain ⟨x, hx⟩ : ∃ x, l[j]? = some x := ⟨_, List.getElem?_eq_getElem (by rw [HN.out]; exact hlt)⟩
              obtain ⟨ob, oo, eA, hbb, hc, hok⟩ := (HH.out.below (HB.out.mono hB)).get hx
              subst eA
              have hld := loadK_ae hc
              have hgx : (l.map (·.a.s))[j]? = some x.a.s := by simp [hx]
              have hds := spErr_dropD hgx
              rw [← HS.out] at hds
              have bk := Bk.new wr 45 (adC x.a x.A x.n x.c)
              have hsp := loadK_adSpB bk
              have hbA := (Below.refl wr.heap.size wr).alloc (Nat.le_refl _) (.cells (adC x.a x.A x.n x.c) 45)
              have HM2 := Lib.hid (HM.out.alloc (.cells (adC x.a x.A x.n x.c) 45))
              have HB2 := Lib.hid (HB.out.alloc HB.out.size (.cells (adC x.a x.A x.n x.c) 45))
              have cc := spCheck (c := x.c) x.a.s (wr.alloc (.cells (adC x.a x.A x.n x.c) 45)) (hok.below (hbA.mono (Nat.le_trans hB HB.out.size))).rd hok.len (Nat.le_trans hB HB2.out.size) hok.max
              obtain ⟨ck, hck⟩ : ∃ ck, spChk x.a.s = ck := ⟨_, rfl⟩
              rw [hck] at cc hds
              have HDS := Lib.hid hds
              clear hds hck hx hgx hok hc HS bk hbA HM HB
              go_wp2_with fail
              refine cc.mono ?_
              rintro en w5 ⟨rfl, hb5⟩
              have HB5 := Lib.hid (HB2.out.trans (hb5.mono HB2.out.size))
              have HM5 := Lib.hid (HM2.out.bS hb5)
              clear hb5
              by_cases h0 : ck = 0
              · subst h0
                go_wp2_with fail
                exact ⟨⟨j + 1, by omega, by go_num, Lib.hid (by rw [HDS.out]; simp), HM5, HB5⟩, by simp only [intOf]; omega⟩
              · have h0' : ((ck : Int) != 0) = true := by simp; omega
                have hse : spErr (l.map (·.a.s)) = ck := by rw [HDS.out, if_pos h0]
                go_wp2_with fail
                go_ret2
                exact ⟨HB5.out, .inr ⟨HNB.out, .inl ⟨by rw [hse]; exact h0, by rw [hse]; rfl⟩⟩⟩
            · have hlt' : decide ((j : Int) < (i : Int)) = false := by simp; omega
              have HZ0 := Lib.hid (show spErr (l.map (·.a.s)) = 0 by rw [HS.out, List.drop_eq_nil_of_le (by rw [List.length_map, HN.out]; omega)]; rfl)
              have m2 := Mg.new (kv := ekV) (vv := uvV) wr
              have mA := HM.out.alloc (.map #[] 0)
              have hb6 := HB.out.alloc HB.out.size (.map #[] 0)
              obtain ⟨b2, hb2⟩ : ∃ b2, wr.heap.size = b2 := ⟨_, rfl⟩
              obtain ⟨w6, hw6⟩ : ∃ w6, wr.alloc (.map #[] 0) = w6 := ⟨_, rfl⟩
              have hlb : b < b2 := by rw [← hb2]; exact HM.out.lt
              have hlw : w.heap.size ≤ b2 := by rw [← hb2]; exact HB.out.size
              rw [hb2, hw6] at m2
              rw [hw6] at mA hb6
              have HMA := Lib.hid mA
              have HM2 := Lib.hid m2
              have HB6 := Lib.hid hb6
              have HW6 := Lib.hid hw6
              have HB2 := Lib.hid hb2
              clear HS m2 mA hb6 hw6 hb2 HM HB HM4 HB4
              go_wp2_with fail
              rw [HW6.out, HB2.out]
              clear hlt hlt' hj
              go_loopw [64] (fun i_ wr3 => ∃ k : Nat, k ≤ i ∧ i_ = .int .i64 k ∧ Hid (Mg idV spvE wr3 b M) ∧ Hid (Mg ekV uvV wr3 b2 (mgAll ((l.take k).filterMap (callC size M)) [])) ∧ Hid (Below w.heap.size w wr3)) (fun i_ _ => i - (intOf i_).toNat)
              case atStart => exact ⟨0, by omega, rfl, HMA, HM2, HB6⟩
              case round =>
                obtain ⟨k, hk, rfl, HM, HE, HB⟩ := hrel
                by_cases hki : k < i
                · have hki' : (k : Int) < (i : Int) := by omega
                  obtain ⟨x, hx⟩ : ∃ x, l[k]? = some x := ⟨_, List.getElem?_eq_getElem (by rw [HN.out]; exact hki)⟩
                  obtain ⟨ob, oo, eA, hbb, hc, hok⟩ := (HH.out.below (HB.out.mono hB)).get hx
                  subst eA
                  have hld := loadK_ae hc
                  have HX := Lib.hid hx
                  have hA2 := HM.out.alloc (.cells (adC x.a x.A x.n x.c) 45)
                  have hlk := run_mgLook (z := .agg zspC) (e := 43) idRun Try.underlying63 (by simp [Try.zeroValue43]) hA2 x.a.up true
                  have HB7 := Lib.hid (HB.out.alloc HB.out.size (.cells (adC x.a x.A x.n x.c) 45))
                  have HM7 := Lib.hid hA2
                  have HE7 := Lib.hid (HE.out.alloc (.cells (adC x.a x.A x.n x.c) 45))
                  have hstep : ∀ r, r = callC size M x → mgAll ((l.take (k + 1)).filterMap (callC size M)) [] = match r with | some e => addK (edK e) e.n (mgAll ((l.take k).filterMap (callC size M)) []) | none => mgAll ((l.take k).filterMap (callC size M)) [] := fun r hr => by
                    rw [take_snoc HX.out, List.filterMap_append]
                    cases r with
                    | none =>
                      rw [show [x].filterMap (callC size M) = [] by simp [← hr], List.append_nil]
                    | some e =>
                      rw [show [x].filterMap (callC size M) = [e] by simp [← hr], mgAll_snoc]
                  have HSTEP := Lib.hid hstep
                  have hxs := HST.out x (List.mem_of_getElem? hx)
                  clear hx hc hok hA2 hstep HM HE HB
                  cases hup : mgGet x.a.up M with
                  | none =>
                    rw [hup] at hlk
                    simp only [if_true, Option.map_none, Option.getD_none, Option.isSome_none] at hlk
                    have hcn : callC size M x = none := by rw [callC, hup]
                    have hst2 := HSTEP.out none hcn.symm
                    have HST2 := Lib.hid hst2
                    clear hst2 HSTEP hcn hup
                    go_wp2_with fail
                    exact ⟨⟨k + 1, by omega, by go_num, Lib.hid (HM7.out.alloc _), Lib.hid (by rw [HST2.out]; exact HE7.out.alloc _), Lib.hid (HB7.out.alloc HB7.out.size _)⟩, by simp only [intOf]; omega⟩
                  | some y =>
                    rw [hup] at hlk
                    simp only [if_true, Option.map_some, Option.getD_some, Option.isSome_some] at hlk
                    by_cases hsv : y.a.s.service = x.a.s.service
                    · have hcn : callC size M x = none := by rw [callC, hup]; simp [hsv]
                      have hst2 := HSTEP.out none hcn.symm
                      have HST2 := Lib.hid hst2
                      have hsv' : (y.a.s.service.toList == x.a.s.service.toList) = true := by rw [strEq_of', decide_eq_true hsv]
                      have hsv'' : (y.a.s.service.toList != x.a.s.service.toList) = false := by rw [bne, hsv']; rfl
                      clear hst2 HSTEP hcn hup
                      go_wp2_with fail
                      exact ⟨⟨k + 1, by omega, by go_num, Lib.hid (HM7.out.alloc _), Lib.hid (by rw [HST2.out]; exact HE7.out.alloc _), Lib.hid (HB7.out.alloc HB7.out.size _)⟩, by simp only [intOf]; omega⟩
                    · have hcn : callC size M x = some ⟨(bktOf x.a.s.start size).1, y.a.s.service, x.a.s.service, 1⟩ := by rw [callC, hup]; simp [hsv]
                      have hst2 := HSTEP.out _ hcn.symm
                      have HST2 := Lib.hid hst2
                      have hsv' : (y.a.s.service.toList == x.a.s.service.toList) = false := by rw [strEq_of', decide_eq_false hsv]
                      have hsv'' : (y.a.s.service.toList != x.a.s.service.toList) = true := by rw [bne, hsv']; rfl
                      clear hst2 HSTEP hcn hup
                      go_wp2_with fail
                      refine (deBucket x.a.s.start size _ hxs.2 hxs.1 hs0 hs1).mono ?_
                      rintro en w8 ⟨rfl, hw8⟩
                      rw [hw8]
                      clear hw8
                      go_wp2_with fail
                      refine (deAdd ⟨(bktOf x.a.s.start size).1, y.a.s.service, x.a.s.service⟩ 1 _ (HE7.out.alloc _)).mono ?_
                      rintro en w9 ⟨rfl, hE9, hg9, hs9⟩
                      go_wp2_with fail
                      exact ⟨⟨k + 1, by omega, by go_num, Lib.hid ((HM7.out.alloc _).grown hg9 (fun e => by have := Option.some.inj e; omega)), Lib.hid (by rw [HST2.out]; exact hE9), Lib.hid ((HB7.out.alloc HB7.out.size _).trans (below_grownJ hg9 (by have := HB7.out.size; simp at this ⊢; omega) (fun j hj => by have := Option.some.inj hj; omega)))⟩, by simp only [intOf]; omega⟩
                · have hki' : decide ((k : Int) < (i : Int)) = false := by simp; omega
                  obtain rfl : k = i := by omega
                  have he := HE.out
                  rw [List.take_of_length_le (by rw [HN.out]; omega), ← HMM.out] at he
                  have hfl : (l.filterMap (callC size (atTo l))).length ≤ 200 := Nat.le_trans (List.length_filterMap_le _ _) (by rw [HN.out]; omega)
                  have hll : (mgAll (l.filterMap (callC size (atTo l))) []).length ≤ 200 := by
                    have := mgAll_len (l.filterMap (callC size (atTo l))) []
                    simp at this
                    omega
                  have hfew := mgAll_few (xs := l.filterMap (callC size (atTo l))) (M := []) (c := 0) (fun e he => by
                    obtain ⟨z, _, hz⟩ := List.mem_filterMap.1 he
                    exact callC_one hz) (fun p hp => by cases hp) List.nodup_nil
                  have hli := deList wr he (by omega)
                  have HFEW := Lib.hid hfew
                  have HFL := Lib.hid hfl
                  clear hfew hfl hll he HE HM
                  go_wp2_with fail
                  refine hli.mono ?_
                  rintro en w8 (⟨⟨p, hp, hlt⟩, -, -⟩ | ⟨-, A8, c8, n8, out, hperm, hsort, hlen8, rfl, hown, hb8⟩)
                  · have h1 := HFEW.out p hp
                    have h2 := HFL.out
                    omega
                  · go_wp2_with fail
                    go_ret2
                    exact ⟨HB.out.trans (hb8.mono HB.out.size), .inr ⟨HNB.out, .inr ⟨HZ0.out, A8, c8, n8, out, hperm, hsort, hlen8, rfl, own_baseJ hown HB.out.size⟩⟩⟩
      · have hqn' : ((q : Int) != (i : Int)) = true := by simp; omega
        go_wp2_with fail
        go_ret2
        exact ⟨HB.out, .inl ⟨.inr (.inl (by rw [HMM.out, HQ.out, HN.out]; exact hqn)), rfl⟩⟩
end Go.Proofs.Ythaiplhjekkooaa

/- Edges, plain: the code's and the document's are one. -/
namespace Go.Proofs.Ythaiplhjekkooaa
open Go.RowKit

theorem snoc_ind {α : Type} {p : List α → Prop} (h0 : p []) (h1 : ∀ l x, p l → p (l ++ [x])) (l : List α) : p l := by
  have h : ∀ m : List α, p m.reverse := by
    intro m
    induction m with
    | nil => exact h0
    | cons x m ih => rw [List.reverse_cons]; exact h1 _ _ ih
  have := h l.reverse
  rwa [List.reverse_reverse] at this
def onO {α β : Type} (f : β → α → β) (o : β) : Option α → β
  | some y => f o y
  | none => o
theorem atTo_keys (l : List AE) : ∀ k, k ∈ (atTo l).map (·.1) ↔ k ∈ l.map (·.a.s.id) := by
  induction l using snoc_ind with
  | h0 => intro k; simp [atTo]
  | h1 l x ih =>
    intro k
    rw [atTo_snoc, mgPut_keys]
    by_cases h : x.a.s.id ∈ (atTo l).map (·.1)
    · rw [if_pos h, ih, List.map_append, List.mem_append]
      constructor
      · exact .inl
      · rintro (h1 | h1)
        · exact h1
        · simp at h1
          rw [h1]
          exact (ih _).1 h
    · rw [if_neg h, List.mem_append, List.map_append, List.mem_append, ih]
      simp
theorem atTo_le (l : List AE) : (atTo l).length ≤ l.length := by
  induction l using snoc_ind with
  | h0 => simp [atTo]
  | h1 l x ih =>
    rw [atTo_snoc]
    have := mgPut_len_le (k := x.a.s.id) (v := x) (atTo l)
    simp
    omega
theorem atTo_len_snoc (l : List AE) (x : AE) : (atTo (l ++ [x])).length = l.length + 1 ↔ (atTo l).length = l.length ∧ x.a.s.id ∉ l.map (·.a.s.id) := by
  have h1 := congrArg List.length (mgPut_keys (k := x.a.s.id) (v := x) (atTo l))
  have h2 := atTo_le l
  rw [← atTo_snoc] at h1
  simp only [List.length_map] at h1
  by_cases h : x.a.s.id ∈ (atTo l).map (·.1)
  · rw [if_pos h] at h1
    simp only [List.length_map] at h1
    have h3 := (atTo_keys l _).1 h
    constructor
    · intro h4; omega
    · rintro ⟨_, h4⟩; exact absurd h3 h4
  · rw [if_neg h] at h1
    simp only [List.length_append, List.length_map, List.length_cons, List.length_nil] at h1
    have h3 : x.a.s.id ∉ l.map (·.a.s.id) := fun h4 => h ((atTo_keys l _).2 h4)
    constructor
    · intro h4; exact ⟨by omega, h3⟩
    · rintro ⟨h4, _⟩; omega
theorem atTo_map {l : List AE} (h : (atTo l).length = l.length) : (l.map (·.a.s.id)).Nodup ∧ atTo l = l.map fun e => (e.a.s.id, e) := by
  induction l using snoc_ind with
  | h0 => exact ⟨List.nodup_nil, rfl⟩
  | h1 l x ih =>
    rw [List.length_append, List.length_singleton] at h
    obtain ⟨h1, h2⟩ := (atTo_len_snoc l x).1 h
    obtain ⟨h3, h4⟩ := ih h1
    refine ⟨?_, ?_⟩
    · rw [List.map_append, List.nodup_append]
      exact ⟨h3, by simp, fun a ha b hb e => by simp at hb; subst hb; exact h2 (e ▸ ha)⟩
    · rw [atTo_snoc, mgPut_new (fun hk => h2 ((atTo_keys l _).1 hk)), h4, List.map_append]
      rfl
theorem dupTo_iff {l : List AE} {x : Ad} : ∀ {i : Nat}, i ≤ l.length → (dupTo (ads l) x i = true ↔ x.s.id ∈ (l.take i).map (·.a.s.id))
  | 0, _ => by simp [dupTo]
  | i + 1, hi => by
    obtain ⟨y, hy⟩ : ∃ y, l[i]? = some y := ⟨_, List.getElem?_eq_getElem hi⟩
    rw [dupTo_succ (ads_get hy), take_snoc hy, List.map_append, List.mem_append, Bool.or_eq_true, dupTo_iff (i := i) (by omega), decide_eq_true_eq]
    simp [eq_comm]
theorem edBad_iff {l : List AE} : ∀ {i : Nat}, i ≤ l.length → (edBadTo (ads l) i = true ↔ ((atTo (l.take i)).length ≠ i ∨ (l.take i).any negA = true))
  | 0, _ => by simp [edBadTo, atTo]
  | i + 1, hi => by
    obtain ⟨y, hy⟩ : ∃ y, l[i]? = some y := ⟨_, List.getElem?_eq_getElem hi⟩
    have hlt : (l.take i).length = i := by rw [List.length_take]; omega
    have h1 := atTo_len_snoc (l.take i) y
    rw [hlt] at h1
    have h2 : edBadAt (ads l) i = (decide (y.a.s.start < 0) || dupTo (ads l) y.a i) := by rw [edBadAt, ads_get hy]
    rw [edBadTo_succ, h2, Bool.or_eq_true, Bool.or_eq_true, edBad_iff (i := i) (by omega), dupTo_iff (i := i) (by omega), take_snoc hy, ne_eq, ne_eq, h1, List.any_append, Bool.or_eq_true]
    have h3 : ([y].any negA = true) ↔ decide (y.a.s.start < 0) = true := by simp [negA]
    rw [h3]
    by_cases a1 : (atTo (l.take i)).length = i <;> by_cases a2 : y.a.s.id ∈ (l.take i).map (·.a.s.id) <;> by_cases a3 : (l.take i).any negA = true <;> by_cases a4 : decide (y.a.s.start < 0) = true <;> simp_all
theorem foldl_range_get {α β : Type} (f : β → α → β) : ∀ (l : List α) (s : β), (List.range l.length).foldl (fun o k => onO f o l[k]?) s = l.foldl f s := by
  intro l
  induction l using snoc_ind with
  | h0 => intro s; rfl
  | h1 l x ih =>
    intro s
    rw [List.length_append, List.length_singleton, List.range_succ, List.foldl_append, List.foldl_append, ← ih]
    have hc : ∀ (n : Nat) (s : β), n ≤ l.length → (List.range n).foldl (fun o k => onO f o (l ++ [x])[k]?) s = (List.range n).foldl (fun o k => onO f o l[k]?) s := by
      intro n
      induction n with
      | zero => intro s _; rfl
      | succ n ihn =>
        intro s hn
        rw [List.range_succ, List.foldl_append, List.foldl_append, ihn _ (by omega)]
        simp [List.getElem?_append_left (show n < l.length by omega)]
    rw [hc _ _ (Nat.le_refl _)]
    simp [onO]
theorem foldl_only {β : Type} (f : β → AE → β) (u : Nat) : ∀ (l : List AE) (o : β), (l.map (·.a.s.id)).Nodup → (∀ o y, y.a.s.id ≠ u → f o y = o) →
    l.foldl f o = match l.find? (fun y => decide (y.a.s.id = u)) with | some y => f o y | none => o
  | [], o, _, _ => rfl
  | y :: l, o, hn, hf => by
    obtain ⟨h1, h2⟩ := List.nodup_cons.1 hn
    rw [List.foldl_cons, List.find?_cons]
    by_cases h : y.a.s.id = u
    · rw [decide_eq_true h]
      have : ∀ (m : List AE) (o : β), (∀ z ∈ m, z.a.s.id ≠ u) → m.foldl f o = o := by
        intro m
        induction m with
        | nil => intro o _; rfl
        | cons z m ih => intro o hz; rw [List.foldl_cons, hf _ _ (hz z (List.mem_cons_self ..))]; exact ih _ fun q hq => hz q (List.mem_cons_of_mem _ hq)
      exact this l _ fun z hz e => h1 (List.mem_map.2 ⟨z, hz, e.trans h.symm⟩)
    · rw [decide_eq_false h, hf _ _ h]
      exact foldl_only f u l o h2 hf
theorem spErr_all : ∀ {l : List Sp}, spErr l = 0 → ∀ s ∈ l, spChk s = 0
  | [], _, s, h => by cases h
  | x :: l, h, s, hs => by
    rw [spErr] at h
    by_cases h1 : spChk x = 0
    · rw [if_neg (by simp [h1])] at h
      rcases List.mem_cons.1 hs with rfl | hs
      · exact h1
      · exact spErr_all h s hs
    · rw [if_pos h1] at h
      exact absurd h h1
theorem spChk_id {s : Sp} (h : spChk s = 0) : s.id ≠ 0 := by
  intro h0
  unfold spChk headB at h
  simp [h0] at h
  split at h <;> cases h
theorem edRow_call {l : List AE} {size : Int} {x : AE} {i : Nat} {out : List Ed} (hx : l[i]? = some x) (hl : (atTo l).length = l.length) (hs : spErr (l.map (·.a.s)) = 0) :
    edRow size (ads l) out i = match callC size (atTo l) x with | some e => (addE e out).1 | none => out := by
  obtain ⟨hnd, hat⟩ := atTo_map hl
  rw [edRow, ads_get hx]
  show (List.range (ads l).length).foldl (edAt size (ads l) x.a) out = _
  have e1 := foldl_range_get (fun o (y : AE) => edStep size x.a y.a o) l out
  have e2 : (fun o k => onO (fun o (y : AE) => edStep size x.a y.a o) o l[k]?) = edAt size (ads l) x.a := by
    funext o k
    rw [edAt, ads, List.getElem?_map]
    cases l[k]? <;> rfl
  rw [e2] at e1
  rw [ads_len, e1, foldl_only (fun o y => edStep size x.a y.a o) x.a.up l out hnd (fun o y hy => by rw [edStep, if_neg (fun h => hy h.2.1)])]
  have hget : mgGet x.a.up (atTo l) = l.find? (fun y => decide (y.a.s.id = x.a.up)) := by
    rw [hat, mgGet]
    clear hat hnd hl e1 e2 hx hs
    induction l with
    | nil => rfl
    | cons y l ih =>
      rw [List.map_cons, List.find?_cons, List.find?_cons]
      by_cases h : y.a.s.id = x.a.up
      · simp [h]
      · simp only [decide_eq_false h]
        exact ih
  rw [callC, hget]
  cases hf : l.find? (fun y => decide (y.a.s.id = x.a.up)) with
  | none => rfl
  | some y =>
    have hid0 := List.find?_some hf
    have hid : y.a.s.id = x.a.up := by simpa using hid0
    have hy := List.mem_of_find?_eq_some hf
    have h0 : x.a.up ≠ 0 := by rw [← hid]; exact spChk_id (spErr_all hs _ (List.mem_map.2 ⟨y, hy, rfl⟩))
    simp only [edStep]
    by_cases hsv : y.a.s.service = x.a.s.service
    · simp [hsv]
    · simp [hsv, hid, h0]
theorem edRows_calls {l : List AE} {size : Int} (hl : (atTo l).length = l.length) (hs : spErr (l.map (·.a.s)) = 0) :
    (List.range (ads l).length).foldl (edRow size (ads l)) [] = (callsC size l).foldl (fun o e => (addE e o).1) [] := by
  have h1 := foldl_range_get (fun o (x : AE) => match callC size (atTo l) x with | some e => (addE e o).1 | none => o) l []
  have h2 : ∀ (n : Nat), n ≤ l.length → (List.range n).foldl (edRow size (ads l)) [] = (List.range n).foldl (fun o k => onO (fun o (x : AE) => match callC size (atTo l) x with | some e => (addE e o).1 | none => o) o l[k]?) [] := by
    intro n
    induction n with
    | zero => intro _; rfl
    | succ n ih =>
      intro hn
      obtain ⟨x, hx⟩ : ∃ x, l[n]? = some x := ⟨_, List.getElem?_eq_getElem hn⟩
      rw [List.range_succ, List.foldl_append, List.foldl_append, ih (by omega)]
      simp only [List.foldl_cons, List.foldl_nil, hx]
      exact edRow_call hx hl hs
  rw [ads_len, h2 _ (Nat.le_refl _), h1, callsC]
  generalize ([] : List Ed) = o
  generalize atTo l = M
  clear h1 h2 hl hs
  induction l generalizing o with
  | nil => rfl
  | cons x l ih =>
    rw [List.foldl_cons, List.filterMap_cons]
    cases callC size M x with
    | none => exact ih o
    | some e => exact ih _
theorem addAll_some {xs : List Ed} : ∀ {out o : List Ed}, addAll xs out = some o → o = xs.foldl (fun o e => (addE e o).1) out := by
  induction xs with
  | nil => intro out o h; exact (Option.some.inj h).symm
  | cons x xs ih =>
    intro out o h
    rw [addAll] at h
    split at h
    · exact ih h
    · cases h
/-- What the code hands back is what the document says. -/
theorem edgC_out {l : List AE} {size : Int} {w w' : World} {e : Ending} (hl : l.length ≤ 200) (h : EdgC l size w e w') : EdsPost w (edOut (ads l) size) e w' := by
  obtain ⟨hb, h⟩ := h
  have hbad := edBad_iff (l := l) (Nat.le_refl _)
  rw [List.take_of_length_le (Nat.le_refl _)] at hbad
  have hsp : (ads l).map (·.s) = l.map (·.a.s) := by simp [ads]
  rcases h with ⟨h1, rfl⟩ | ⟨h1, h⟩
  · have : edOut (ads l) size = ([], 2) := by
      unfold edOut
      rcases h1 with h1 | h1
      · rw [if_pos h1]
      · by_cases hz : size < 1
        · rw [if_pos hz]
        · rw [if_neg hz, ads_len, if_pos (hbad.2 h1)]
    rw [this]
    exact EdsPost.no hb
  · have hz : ¬ size < 1 := fun h2 => h1 (.inl h2)
    have hnb : ¬ edBadTo (ads l) l.length = true := fun h2 => h1 (.inr (hbad.1 h2))
    have hlen : (atTo l).length = l.length := by
      by_cases h2 : (atTo l).length = l.length
      · exact h2
      · exact absurd (.inr (.inl h2)) h1
    rcases h with ⟨h2, rfl⟩ | ⟨h2, A, c, n, out, hp, hs, hn, rfl, hown⟩
    · have : edOut (ads l) size = ([], spErr (l.map (·.a.s))) := by
        unfold edOut
        rw [if_neg hz, ads_len, if_neg hnb, hsp, if_pos h2]
      rw [this]
      exact EdsPost.no hb
    · have hone : ∀ e ∈ callsC size l, e.n = 1 := fun e he => by
        obtain ⟨z, _, hz⟩ := List.mem_filterMap.1 he
        exact callC_one hz
      have hcl : (callsC size l).length ≤ 200 := Nat.le_trans (List.length_filterMap_le _ _) hl
      have hfew := mgAll_few (xs := callsC size l) (M := []) (c := 0) hone (fun p hp => by cases hp) List.nodup_nil
      have hsame := addAll_same (xs := callsC size l) Same.nil (fun e he => by cases he)
      have heq : edOut (ads l) size = (out, 0) := by
        unfold edOut
        rw [if_neg hz, ads_len, if_neg hnb, hsp, if_neg (by simp [h2])]
        congr 1
        have h3 := edRows_calls (size := size) hlen h2
        rw [ads_len] at h3
        rw [h3]
        cases ha : addAll (callsC size l) [] with
        | none =>
          rw [ha] at hsame
          obtain ⟨p, hp, hlt⟩ := hsame
          have := hfew p hp
          omega
        | some o =>
          rw [ha] at hsame
          rw [hsame.1.sorted hp hs]
          exact (addAll_some ha).symm
      rw [heq]
      refine ⟨A, c, ?_, ?_, hb⟩
      · show _ = Ending.returned (.tuple #[.slice A out.length c, .int .i64 0])
        rw [hn]
      · show w'.ownsRow _ _ _ (.slice A out.length c) out.length _
        rw [hn]
        exact hown
end Go.Proofs.Ythaiplhjekkooaa
