/- block.put: the walk. -/
import Derived.Deep.Cut
import Derived.Deep.CutRange
import Derived.Deep.RegionHeld3
import Derived.Test.YtleghbdkjdpilaaBkM
import Derived.Test.YtleghbdkjdpilaaOff
namespace Go.Proofs.Ytleghbdkjdpilaa
open Go.RowKit
theorem loadEn_shutP (a : Addr) : loadVar 29 a = loadK 29 a := rfl
attribute [local go_sem ↓] loadEn_shutP

/-- The key ahead of the i-th entry. -/
def lastV (l : List BE) : Nat → Value
  | 0 => .slice none 0 0
  | j + 1 => match l[j]? with | some e => .slice e.A1 e.x.key.length e.c1 | none => .slice none 0 0
set_option maxRecDepth 100000 in
set_option maxHeartbeats 4000000 in
theorem blkPut {A : Option Addr} {n c B : Nat} (l : List BE) (w : World) (h : RbE w B A l) (hn : l.length = n) (hB : B ≤ w.heap.size) (hnl : n ≤ 1000000) (hf : ∀ e ∈ l, e.x.Fine) :
    Calls Try.prog 26 #[.slice none 0 0, .slice A n c] w (BytMade w (blk (ens l))) := by
  have HN := Lib.hid hn
  have HH := Lib.hid h
  have HF := Lib.hid hf
  have HL : Hid (∀ x ∈ ens l, x.Fine) := Lib.hid fun x hx => by
    obtain ⟨e, he, rfl⟩ := List.mem_map.1 hx
    exact hf e he
  clear hn h hf
  go_enter Try.func26, Try.ntmps26
  go_wp2_with fail
  go_loopw [0, 6, 7, 20] (fun p_ q_ last_ iv_ wr => ∃ (i : Nat) (Ap : Option Addr) (cp : Nat) (Aq : Option Addr) (cq : Nat), i ≤ n ∧ iv_ = .int .i64 i ∧ p_ = .slice Ap (esTo (ens l) i).length cp ∧ q_ = .slice Aq (plTo (ens l) i).length cq ∧ last_ = lastV l i ∧ PtM w wr Ap cp (esTo (ens l) i) Aq cq (plTo (ens l) i)) (fun _ _ _ i _ => n - (intOf i).toNat)
  case atStart => exact ⟨0, none, 0, none, 0, by omega, rfl, rfl, rfl, rfl, PtM.nil _⟩
  case round =>
    obtain ⟨i, Ap, cp, Aq, cq, hi, rfl, rfl, rfl, rfl, pt⟩ := hrel
    by_cases hlt : i < n
    · have hlt' : (i : Int) < (n : Int) := by omega
      obtain ⟨e, he⟩ : ∃ e, l[i]? = some e := ⟨_, List.getElem?_eq_getElem (by rw [HN.out]; exact hlt)⟩
      have hrb := HH.out.below (pt.bel.mono hB)
      obtain ⟨b, o, e', hbb, hc, hok⟩ := hrb.get he
      cases e'
      have la := loadK_be hc
      have hfe := HF.out e (List.mem_of_getElem? he)
      have bk := Bk.new wr 29 (beA e)
      have hal : Below wr.heap.size wr (wr.alloc (.cells (beA e) 29)) := (Below.refl _ wr).alloc (Nat.le_refl _) _
      obtain ⟨W1, hW1⟩ : ∃ W1, wr.alloc (.cells (beA e) 29) = W1 := ⟨_, rfl⟩
      rw [hW1] at bk hal
      obtain ⟨g, hg⟩ : ∃ g, wr.heap.size = g := ⟨_, rfl⟩
      have hgw : w.heap.size ≤ g := by have := pt.bel.size; omega
      rw [hg] at bk
      have pt1 := pt.below hal
      have hps : (plTo (ens l) i).length ≤ 1000000 := by have := plTo_len (ens l) i; omega
      have hxs : (esTo (ens l) i).length ≤ 70000000000 := by
        have := esTo_len HL.out i
        have h2 : i * 70000 ≤ 1000000 * 70000 := Nat.mul_le_mul_right _ (by omega)
        omega
      obtain ⟨nn, hnn⟩ : ∃ nn, nAt (ens l) i = nn := ⟨_, rfl⟩
      have hnnl : nn ≤ e.x.key.length := by rw [← hnn]; exact nAt_le (ens_get he)
      have hes : esTo (ens l) (i + 1) = esTo (ens l) i ++ eEnc nn e.x := by
        have h1 : esTo (ens l) (i + 1) = esTo (ens l) i ++ (match (ens l)[i]? with | some x => eEnc (nAt (ens l) i) x | none => []) := rfl
        rw [h1, ens_get he, hnn]
      have hpl : plTo (ens l) (i + 1) = if i % 16 = 0 then plTo (ens l) i ++ [(esTo (ens l) i).length] else plTo (ens l) i := rfl
      obtain ⟨xs, hxs'⟩ : ∃ xs, esTo (ens l) i = xs := ⟨_, rfl⟩
      obtain ⟨ps, hps'⟩ : ∃ ps, plTo (ens l) i = ps := ⟨_, rfl⟩
      rw [hxs', hps'] at pt1 hpl
      rw [hxs'] at hxs hes
      rw [hps'] at hps
      obtain ⟨k0, k1, k2, k3⟩ : W1.cell? ⟨g, 0, none⟩ = some (.slice e.A1 e.x.key.length e.c1) ∧ W1.cell? ⟨g, 1, none⟩ = some (.int .u64 e.x.seq) ∧ W1.cell? ⟨g, 2, none⟩ = some (.int .i64 e.x.kind) ∧ W1.cell? ⟨g, 3, none⟩ = some (.slice e.A2 e.x.val.length e.c2) := ⟨bk.cell 0, bk.cell 1, bk.cell 2, bk.cell 3⟩
      have HOQ : Hid (∀ k, (Value.slice Aq ps.length cq).ownBlock = some k → k < g) := by rw [← hps', ← hg]; exact Lib.hid fun k e => (pt.q.lt k e).2
      have HOP : Hid (∀ k, (Value.slice Ap xs.length cp).ownBlock = some k → k < g) := by rw [← hxs', ← hg]; exact Lib.hid fun k e => (pt.p.lt k e).2
      have HW := Lib.hid hW1
      have HG := Lib.hid hg
      have HE := Lib.hid he
      have HES := Lib.hid hes
      have HPL := Lib.hid hpl
      have HNN := Lib.hid hnn
      have HPT := Lib.hid pt1
      have HBK := Lib.hid bk
      have HX := Lib.hid hxs'
      have HP := Lib.hid hps'
      clear hW1 hg he hes hpl hnn pt1 pt bk hc hrb hbb hal hok
      go_upto_region 8 with fail
      rw [HW.out, HG.out, HX.out, HP.out]
      go_upto_if 27 with fail
      go_cut [6, 10, 20] from 20 to 79 (fun q_ n_ i_ W => i_ = .int .i64 i ∧ n_ = .int .i64 nn ∧ ∃ Aq2 cq2, q_ = .slice Aq2 (plTo (ens l) (i + 1)).length cq2 ∧ PtM w W Ap cp xs Aq2 cq2 (plTo (ens l) (i + 1)) ∧ Bk W g 29 (beA e) ∧ Below w.heap.size w W)
      case first =>
        by_cases h16 : i % 16 = 0
        · have hd : ((i : Int) % 16 == 0) = true := by simp; omega
          have hpl2 : plTo (ens l) (i + 1) = ps ++ [xs.length] := by rw [HPL.out, if_pos h16]
          have hn0 : nn = 0 := by rw [← HNN.out, nAt, if_pos h16]
          have HP2 := Lib.hid hpl2
          have HN0 := Lib.hid hn0
          have hpa := HPT.out.below ((Below.refl _ W1).alloc (Nat.le_refl _) (.cells #[.int .i64 (xs.length : Nat)] 3))
          have hbkA := HBK.out.alloc (.cells #[.int .i64 (xs.length : Nat)] 3)
          have HPA := Lib.hid hpa
          have hgl : g < W1.heap.size := HBK.out.lt
          clear hpl2 hn0 h16 hpa
          go_wp2_with (at_builtin; go_loud (refine wpList_appI _ rfl (.tmp 28) (.tmp 33) rfl w.heap.size _ ps.length (ints ps) rfl HPA.out.q (W1.heap.size + 1) (some ⟨W1.heap.size, 0, none⟩) 1 (xs.length : Nat) rfl (Rd.lit W1 #[.int .i64 (xs.length : Nat)] _) (by omega) (by simp; omega) ?_); intro A4 c4 w4 happ)
          have pt4 := HPA.out.appQ happ
          rw [← HP2.out] at pt4
          have bk4 := hbkA.grown happ.grown (fun e => by have := HOQ.out g e.symm; omega)
          go_meet
          exact ⟨rfl, by rw [HN0.out]; rfl, A4, c4, by rw [HP2.out]; simp, pt4, bk4, pt4.bel⟩
        · have hd : ((i : Int) % 16 == 0) = false := by simp; omega
          obtain ⟨ep, hep⟩ : ∃ ep, l[i - 1]? = some ep := ⟨_, List.getElem?_eq_getElem (by rw [HN.out]; omega)⟩
          have hlast : lastV l i = .slice ep.A1 ep.x.key.length ep.c1 := by
            cases i with
            | zero => simp at h16
            | succ j => rw [Nat.add_sub_cancel] at hep; simp only [lastV, hep]
          have hnn2 : lcp ep.x.key e.x.key = nn := by rw [← HNN.out, nAt, if_neg h16, ens_get hep, ens_get HE.out]
          have hpl2 : plTo (ens l) (i + 1) = ps := by rw [HPL.out, if_neg h16]
          have hr1 := HH.out.below (HPT.out.bel.mono hB)
          have cs := blkShared (n1 := ep.x.key.length) (c1 := ep.c1) (n2 := e.x.key.length) (c2 := e.c1) W1 (hr1.ok ep (List.mem_of_getElem? hep)).k (hr1.ok e (List.mem_of_getElem? HE.out)).k rfl rfl (by have := (HF.out ep (List.mem_of_getElem? hep)).kl; omega)
          rw [hnn2, ← hlast] at cs
          have CS := Lib.hid cs
          have HP2 := Lib.hid hpl2
          clear hlast hnn2 hpl2 hr1 cs hep h16
          go_wp2_with (go_at_call 37; refine CS.out.mono ?_; rintro e3 w3 ⟨rfl, d3, rfl⟩)
          go_meet
          have pt4 := HPT.out.below (below_drewN (Below.refl _ W1) d3)
          rw [← HP2.out] at pt4
          exact ⟨rfl, rfl, Aq, cq, by rw [HP2.out], pt4, HBK.out, pt4.bel⟩
      case rest =>
        obtain ⟨rfl, rfl, Aq2, cq2, rfl, pt2, bk2, hb2⟩ := hcut
        have hkl := hfe.kl
        have hvl := hfe.vl
        have hsq := hfe.seq
        obtain ⟨z, hz⟩ : ∃ z, e.x.key.length = z := ⟨_, rfl⟩
        obtain ⟨v, hv⟩ : ∃ v, e.x.val.length = v := ⟨_, rfl⟩
        obtain ⟨sq, hs⟩ : ∃ sq, e.x.seq = sq := ⟨_, rfl⟩
        obtain ⟨kn, hkn⟩ : ∃ kn : Nat, e.x.kind = (kn : Int) := ⟨e.x.kind.toNat, by rcases hfe.kind with h | ⟨h, -⟩ <;> omega⟩
        have hkn2 : kn ≤ 2 := by rcases hfe.kind with h | ⟨h, -⟩ <;> omega
        have q0 : wc.cell? ⟨g, 0, none⟩ = some (.slice e.A1 z e.c1) := by rw [← hz]; exact bk2.cell 0
        have q1 : wc.cell? ⟨g, 1, none⟩ = some (.int .u64 sq) := by rw [← hs]; exact bk2.cell 1
        have q2 : wc.cell? ⟨g, 2, none⟩ = some (.int .i64 kn) := by rw [← hkn]; exact bk2.cell 2
        have q3 : wc.cell? ⟨g, 3, none⟩ = some (.slice e.A2 v e.c2) := by rw [← hv]; exact bk2.cell 3
        rw [hz] at hkl hnnl
        rw [hv] at hvl
        rw [hs] at hsq
        have r0 : IntKind.u64.wrap (nn : Int) = (nn : Int) := IntWalk.u64_in _ ⟨by omega, by omega⟩
        have r1 : IntKind.u64.wrap ((z : Int) - (nn : Int)) = ((z - nn : Nat) : Int) := by rw [IntWalk.u64_in _ ⟨by omega, by omega⟩]; omega
        have r2 : IntKind.u64.wrap ((sq : Int) * 4) = (sq : Int) * 4 := IntWalk.u64_in _ ⟨by omega, by omega⟩
        have r3 : IntKind.u64.wrap (kn : Int) = (kn : Int) := IntWalk.u64_in _ ⟨by omega, by omega⟩
        obtain ⟨tg, htg⟩ : ∃ tg, sq * 4 + kn = tg := ⟨_, rfl⟩
        have htb : tg < 18446744073709551616 := by omega
        have r4 : IntKind.u64.wrap ((sq : Int) * 4 + (kn : Int)) = (tg : Int) := by rw [IntWalk.u64_in _ ⟨by omega, by omega⟩]; omega
        have HTG := Lib.hid htg
        have r5 : IntKind.u64.wrap (v : Int) = (v : Int) := IntWalk.u64_in _ ⟨by omega, by omega⟩
        have HZ := Lib.hid hz
        have HV := Lib.hid hv
        have HS := Lib.hid hs
        have HKN := Lib.hid hkn
        have HPT2 := Lib.hid pt2
        have HBK2 := Lib.hid bk2
        clear hz hv hs hkn pt2 bk2 k0 k1 k2 k3 la hfe htg
        obtain ⟨ns, hns⟩ : ∃ ns : List Nat, [nn, z - nn, tg, v] = ns := ⟨_, rfl⟩
        have hnl4 : ns.length = 4 := by rw [← hns]; rfl
        have hnb : ∀ x ∈ ns, x < 18446744073709551616 := fun x hx => by
          rw [← hns] at hx
          simp only [List.mem_cons, List.not_mem_nil, or_false] at hx
          omega
        have bkn : Bk (wc.alloc (.cells #[.int .u64 (nn : Nat), .int .u64 ((z - nn : Nat) : Int), .int .u64 (tg : Nat), .int .u64 (v : Nat)] 27)) wc.heap.size 27 (ns.map fun x => Value.int .u64 (x : Nat)).toArray := by
          rw [← hns]
          exact Bk.new wc _ _
        have haln : Below wc.heap.size wc (wc.alloc (.cells #[.int .u64 (nn : Nat), .int .u64 ((z - nn : Nat) : Int), .int .u64 (tg : Nat), .int .u64 (v : Nat)] 27)) := (Below.refl _ wc).alloc (Nat.le_refl _) _
        obtain ⟨W2, hW2⟩ : ∃ W2, wc.alloc (.cells #[.int .u64 (nn : Nat), .int .u64 ((z - nn : Nat) : Int), .int .u64 (tg : Nat), .int .u64 (v : Nat)] 27) = W2 := ⟨_, rfl⟩
        rw [hW2] at bkn haln
        obtain ⟨g2, hg2⟩ : ∃ g2, wc.heap.size = g2 := ⟨_, rfl⟩
        have hg12 : g < g2 := by rw [← hg2]; exact HBK2.out.lt
        rw [hg2] at bkn
        have pt3 := HPT2.out.below haln
        have bk3 := HBK2.out.below haln (HBK2.out.lt)
        have HW2 := Lib.hid hW2
        have HG2 := Lib.hid hg2
        have HNS := Lib.hid hns
        have HN4 := Lib.hid hnl4
        have HNB := Lib.hid hnb
        have ho3 : ∀ k, (Value.slice Ap xs.length cp).ownBlock = some k → k ≠ g ∧ k ≠ g2 := fun k e => by have := HOP.out k e; omega
        clear hW2 hg2 hns hnl4 hnb haln
        go_upto_region 12 with fail
        rw [HW2.out, HG2.out]
        go_loopw [0, 60] (fun p_ iv_ wq => ∃ (j : Nat) (Ap3 : Option Addr) (cp3 : Nat) (xs3 : List Int), j ≤ 4 ∧ iv_ = .int .i64 j ∧ Hid (xs3 = xs ++ (ns.take j).flatMap numEnc) ∧ xs3.length ≤ 70000000000 + 10 * j ∧ p_ = .slice Ap3 xs3.length cp3 ∧ PtM w wq Ap3 cp3 xs3 Aq2 cq2 (plTo (ens l) (i + 1)) ∧
          Bk wq g 29 (beA e) ∧ Bk wq g2 27 (ns.map fun x => Value.int .u64 (x : Nat)).toArray ∧ (∀ k, (Value.slice Ap3 xs3.length cp3).ownBlock = some k → k ≠ g ∧ k ≠ g2)) (fun _ i_ _ => 4 - (intOf i_).toNat)
        case atStart => exact ⟨0, Ap, cp, xs, by omega, rfl, Lib.hid (by simp), by omega, rfl, pt3, bk3, bkn, ho3⟩
        case round =>
          obtain ⟨j, Ap3, cp3, xs3, hj, rfl, hx3, hl3, rfl, pt3, bk3, bkn, ho3⟩ := hrel
          by_cases hlt4 : j < 4
          · have hlt4' : (j : Int) < (4 : Int) := by omega
            obtain ⟨x, hx⟩ : ∃ x, ns[j]? = some x := ⟨_, List.getElem?_eq_getElem (by rw [HN4.out]; exact hlt4)⟩
            have cx : wr.cell? ⟨g2, j, none⟩ = some (.int .u64 (x : Nat)) := by
              have h := bkn.cell j
              rw [h]
              simp [hx]
            have hxb := HNB.out x (List.mem_of_getElem? hx)
            have cn := wireNumber (x := x) wr pt3.p pt3.bel.size hxb (by omega)
            rw [← List.length_append] at cn
            have CN := Lib.hid cn
            have hl10 := numEnc_u64 hxb
            have HXJ := Lib.hid (take_snoc hx)
            have HPT3 := Lib.hid pt3
            have HBK3 := Lib.hid bk3
            have HBKN := Lib.hid bkn
            have HO3 := Lib.hid ho3
            have hgl3 := bk3.lt
            have hgl4 := bkn.lt
            clear cn hx pt3 bk3 bkn ho3
            go_wp2_with (go_at_call 38; refine CN.out.mono ?_; rintro e4 w4 ⟨A4, c4, rfl, happ, -⟩)
            have hne1 : ∀ k, (Value.slice A4 (xs3 ++ numEnc x).length c4).ownBlock = some k → k ≠ g ∧ k ≠ g2 := fun k e => by
              rcases happ.block with h1 | ⟨q, h1, h2⟩
              · exact HO3.out k (h1.symm.trans e)
              · rw [h1] at e
                cases e
                omega
            exact ⟨⟨j + 1, A4, c4, xs3 ++ numEnc x, by omega, by simp, Lib.hid (by rw [HXJ.out, List.flatMap_append, ← List.append_assoc, ← hx3.out]; simp), by rw [List.length_append]; omega, by rw [List.length_append], HPT3.out.appP happ,
              HBK3.out.grown happ.grown (fun e => (HO3.out g e.symm).1 rfl), HBKN.out.grown happ.grown (fun e => (HO3.out g2 e.symm).2 rfl), hne1⟩, by simp only [intOf]; omega⟩
          · have hj4 : j = 4 := by omega
            subst hj4
            have hx4 : xs3 = xs ++ (numEnc nn ++ numEnc (z - nn) ++ numEnc tg ++ numEnc v) := by
              rw [hx3.out, List.take_of_length_le (by rw [HN4.out]; exact Nat.le_refl _), ← HNS.out]
              simp
            have HX4 := Lib.hid hx4
            have hrb4 := HH.out.below (pt3.bel.mono hB)
            have hok4 := hrb4.ok e (List.mem_of_getElem? HE.out)
            have hBr : B ≤ wr.heap.size := Nat.le_trans hB pt3.bel.size
            have hsl : ∀ W, (Instr.slice 26 (.slice e.A1 z e.c1) (some (.int .i64 (nn : Nat))) none none).run Try.prog W = .ok (.slice (offA e.A1 e.c1 nn) (z - nn) (e.c1 - nn)) W := fun W => run_slK W e.A1 z e.c1 .i64 nn (by omega) (by omega)
            have hrk : Rb wr B (offA e.A1 e.c1 nn) (e.x.key.drop nn) := hok4.k.drop hok4.kc
            have hrv : Rb wr B e.A2 e.x.val := hok4.v
            have CE : Hid (∀ W, Bk W g 29 (beA e) → W.cell? ⟨g, 0, none⟩ = some (.slice e.A1 z e.c1) ∧ W.cell? ⟨g, 3, none⟩ = some (.slice e.A2 v e.c2)) := Lib.hid fun W h => ⟨by rw [← HZ.out]; exact h.cell 0, by rw [← HV.out]; exact h.cell 3⟩
            have bk3d := bk3.drew
            obtain ⟨y0, y3⟩ := CE.out wr.drew bk3d
            have HPT3 := Lib.hid pt3
            have HO3 := Lib.hid ho3
            have HBK3 := Lib.hid bk3d
            have HRK := Lib.hid hrk
            have HRV := Lib.hid hrv
            have hpd := pt3.drew
            have HPD := Lib.hid hpd
            clear hx4 hx3 hrb4 hok4 pt3 bk3 ho3 hrk hrv bk3d bkn hpd q0 q1 q2 q3
            go_upto_region 16 with fail
            go_region_held3 (fun w' => w'.cell? ⟨g, 0, none⟩ = some (.slice e.A1 z e.c1) ∧ w'.cell? ⟨g, 3, none⟩ = some (.slice e.A2 v e.c2)) (go_keep)
              (first
                | (refine step_appP (by rfl) (.tmp 68) (.tmp 72) (by rfl) w.heap.size (.slice Ap3 xs3.length cp3) xs3.length xs3 (by rfl) HPD.out.p B (offA e.A1 e.c1 nn) (z - nn) (e.c1 - nn) (e.x.key.drop nn) (by rfl) (by rw [List.length_drop, HZ.out]) HRK.out (by omega) (by have := HPD.out.bel.size; omega) ?_
                   intro A5 c5 w5 happ5 _
                   have bk5 := HBK3.out.grown happ5.grown (fun e => (HO3.out g e.symm).1 rfl)
                   obtain ⟨u0, u3⟩ := CE.out w5 bk5
                   have hb5 : Below w.heap.size wr.drew w5 := happ5.below HPD.out.bel.size (fun k e => (HPD.out.p.lt k e).1)
                   have ho5 : ∀ k, (Value.slice A5 (xs3.length + (z - nn)) c5).ownBlock = some k → k ≠ g := fun k e => by
                     rcases happ5.block with h1 | ⟨q, h1, h2⟩
                     · exact (HO3.out k (h1.symm.trans e)).1
                     · rw [h1] at e
                       cases e
                       have := HBK3.out.lt
                       omega)
                | (refine step_appP (by rfl) (.tmp 73) (.tmp 75) (by rfl) w.heap.size (.slice A5 (xs3.length + (z - nn)) c5) (xs3.length + (z - nn)) (xs3 ++ e.x.key.drop nn) (by rfl) happ5.own B e.A2 v e.c2 e.x.val (by rfl) (by rw [HV.out]) (show Rb w5 B e.A2 e.x.val from Rd.below (HRV.out.drew) (hb5.mono hB)) (by omega) (by have := HPD.out.bel.size; have := happ5.grown.size; omega) ?_
                   intro A6 c6 w6 happ6 _
                   have bk6 := bk5.grown happ6.grown (fun e => ho5 g e.symm rfl)
                   obtain ⟨v0, v3⟩ := CE.out w6 bk6)
                | fail)
            have e5 : xs3.length + (z - nn) = (xs3 ++ e.x.key.drop nn).length := by rw [List.length_append, List.length_drop, HZ.out]
            have e6 : xs3.length + (z - nn) + v = (xs3 ++ e.x.key.drop nn ++ e.x.val).length := by rw [List.length_append, ← e5, HV.out]
            rw [e6, e5] at happ6
            rw [e5] at happ5
            have pt6 := (HPD.out.appP happ5).appP happ6
            have hfin : esTo (ens l) (i + 1) = xs3 ++ e.x.key.drop nn ++ e.x.val := by
              rw [HES.out, HX4.out, eEnc, HZ.out, HS.out, HV.out, HKN.out, Int.toNat_natCast, HTG.out]
              simp
            rw [← hfin] at pt6 e6
            have hla : lastV l (i + 1) = .slice e.A1 z e.c1 := by simp only [lastV, HE.out, HZ.out]
            have HFIN := Lib.hid e6
            have HLA := Lib.hid hla
            have HPT6 := Lib.hid pt6
            clear e5 e6 happ5 happ6 pt6 hfin hla bk5 bk6
            go_wp2_with fail
            exact ⟨⟨i + 1, A6, c6, Aq2, cq2, by omega, by simp, by rw [HFIN.out], rfl, HLA.out.symm, HPT6.out⟩, by simp only [intOf]; omega⟩
    · have hin : i = n := by omega
      subst hin
      have hps : (plTo (ens l) i).length ≤ 1000000 := by have := plTo_len (ens l) i; omega
      have hxs : (esTo (ens l) i).length ≤ 70000000000 := by
        have := esTo_len HL.out i
        have h2 : i * 70000 ≤ 1000000 * 70000 := Nat.mul_le_mul_right _ (by omega)
        omega
      have hpb := plTo_lt (ens l) i
      have hblk : blk (ens l) = esTo (ens l) i ++ (plTo (ens l) i ++ [(plTo (ens l) i).length]).flatMap w4 := by rw [blk, List.length_map, HN.out]
      obtain ⟨xs, hxs'⟩ : ∃ xs, esTo (ens l) i = xs := ⟨_, rfl⟩
      obtain ⟨ps, hps'⟩ : ∃ ps, plTo (ens l) i = ps := ⟨_, rfl⟩
      rw [hxs', hps'] at pt hblk hpb
      rw [hxs'] at hxs ⊢
      rw [hps'] at hps ⊢
      have HBLK := Lib.hid hblk
      have HPB := Lib.hid hpb
      have hpa := pt.below ((Below.refl _ wr).alloc (Nat.le_refl _) (.cells #[.int .i64 (ps.length : Nat)] 3))
      have HPA := Lib.hid hpa
      clear hpa hxs' hps' hblk hpb pt hlt hi
      go_upto_region 20 with (at_builtin; go_loud (refine wpList_appI _ rfl (.tmp 80) (.tmp 83) rfl w.heap.size _ ps.length (ints ps) rfl HPA.out.q (wr.heap.size + 1) (some ⟨wr.heap.size, 0, none⟩) 1 (ps.length : Nat) rfl (Rd.lit wr #[.int .i64 (ps.length : Nat)] _) (by omega) (by have := HPA.out.bel.size; simp at this; simp; omega) ?_); intro A4 c4 v4 happ)
      have pt4 := HPA.out.appQ happ
      obtain ⟨Q, hQ⟩ : ∃ Q, ps ++ [ps.length] = Q := ⟨_, rfl⟩
      obtain ⟨m, hm⟩ : ∃ m, ps.length = m := ⟨_, rfl⟩
      have hQl : Q.length = m + 1 := by rw [← hQ, ← hm]; simp
      have hQb : ∀ x ∈ Q, x ≤ 70000000000 := fun x hx => by
        rw [← hQ, List.mem_append, List.mem_singleton] at hx
        rcases hx with hx | hx
        · exact Nat.le_trans (HPB.out x hx) hxs
        · omega
      have hmb : m ≤ 1000000 := by omega
      rw [hQ] at pt4
      rw [hm]
      have HQ := Lib.hid hQ
      have HQL := Lib.hid hQl
      have HQB := Lib.hid hQb
      clear happ hQ hm hQl hQb
      go_loopw [0, 86] (fun p_ iv_ wq => ∃ (j : Nat) (Ap3 : Option Addr) (cp3 : Nat) (xs3 : List Int), j ≤ m + 1 ∧ iv_ = .int .i64 j ∧ Hid (xs3 = xs ++ (Q.take j).flatMap w4) ∧ xs3.length ≤ 70000000000 + 4 * j ∧ p_ = .slice Ap3 xs3.length cp3 ∧ PtM w wq Ap3 cp3 xs3 A4 c4 Q) (fun _ i_ _ => m + 1 - (intOf i_).toNat)
      case atStart => exact ⟨0, Ap, cp, xs, by omega, rfl, Lib.hid (by simp), by omega, rfl, pt4⟩
      case round =>
        obtain ⟨j, Ap3, cp3, xs3, hj, rfl, hx3, hl3, rfl, pt3⟩ := hrel
        by_cases hlt4 : j < m + 1
        · have hlt4' : (j : Int) < (m : Int) + 1 := by omega
          obtain ⟨x, hx⟩ : ∃ x, Q[j]? = some x := ⟨_, List.getElem?_eq_getElem (by rw [HQL.out]; exact hlt4)⟩
          have hix : (ints Q)[j]? = some (.int .i64 (x : Nat)) := by simp [ints, hx]
          obtain ⟨bq, oq, eq, hbq, hcq⟩ := Rd.get (Rd.of_own pt3.q) hix
          subst eq
          have hxb : x < 9223372036854775808 := by have := HQB.out x (List.mem_of_getElem? hx); omega
          have co := blkOf x wr hxb
          have CO := Lib.hid co
          have HXJ := Lib.hid (take_snoc hx)
          have HPT3 := Lib.hid pt3
          clear co hx hix pt3
          go_upto_region 23 with (go_at_call 39; refine CO.out.mono ?_; rintro e5 w5 ⟨rfl, hb5⟩)
          have hpt5 := HPT3.out.below hb5
          have HPT6 := Lib.hid (hpt5.below ((Below.refl _ w5).alloc (Nat.le_refl _) (.cells (w4C x) 62)))
          have hr6 : Rb (w5.alloc (.cells (w4C x) 62)) (w5.heap.size + 1) (some ⟨w5.heap.size, 0, none⟩) (w4 x) := Rd.lit w5 (w4C x) _
          clear hpt5 hb5 hcq
          go_wp2_with (at_builtin; go_loud (refine wpList_appb _ rfl (.tmp 92) (.tmp 93) rfl w.heap.size _ xs3.length xs3 rfl HPT6.out.p _ _ 4 4 (w4 x) rfl rfl hr6 (by omega) (by have := HPT6.out.bel.size; exact this) ?_); intro A6 c6 w6 happ6 _)
          have hp6 := HPT6.out.appP (ys := w4 x) (by rw [List.length_append]; exact happ6)
          have hfl : ((Q.take j).flatMap w4 ++ w4 x) = (Q.take (j + 1)).flatMap w4 := by rw [HXJ.out, List.flatMap_append]; simp
          exact ⟨⟨j + 1, A6, c6, xs3 ++ w4 x, by omega, by simp, Lib.hid (by rw [hx3.out, List.append_assoc, hfl]), by rw [List.length_append, w4_length]; omega, by rw [List.length_append]; rfl, hp6⟩, by simp only [intOf]; omega⟩
        · have hjm : j = m + 1 := by omega
          subst hjm
          have hb3 : xs3 = blk (ens l) := by rw [hx3.out, List.take_of_length_le (by rw [HQL.out]; exact Nat.le_refl _), HBLK.out, ← HQ.out]
          have HB3 := Lib.hid hb3
          have HPT3 := Lib.hid pt3
          clear hb3 pt3
          go_wp2_with fail
          go_ret
          have h3 := HPT3.out
          rw [HB3.out] at h3
          exact ⟨Ap3, cp3, by rw [HB3.out]; rfl, BytNew.of ⟨ownsT.of h3.p, ⟨h3.bel.os, h3.bel.tape, h3.bel.output, h3.bel.size, fun k hk _ => h3.bel.block k hk⟩, by
            cases hb : (Value.slice Ap3 (blk (ens l)).length cp3).ownBlock with
            | none => exact .inl rfl
            | some g => exact .inr ⟨g, rfl, (h3.p.lt g hb).1⟩⟩⟩
end Go.Proofs.Ytleghbdkjdpilaa
