/- Keys: Unpack. -/
import Derived.Deep.RegionWith
import Derived.Test.YtlamebbolioljaaScI
namespace Go.Proofs.Ytlamebbolioljaa
open Go.RowKit
theorem loadKy_shut3 (a : Addr) : loadVar 26 a = loadK 26 a := rfl
attribute [local go_sem ↓] loadKy_shut3 run_slK

set_option maxRecDepth 100000 in
set_option maxHeartbeats 1000000 in
theorem scUnpack0 {A0 : Option Addr} {c0 : Nat} (w : World) : Calls Try.prog 12 #[.slice A0 0 c0] w (UnPost w (zeroKy, 12)) := by
  go_enter Try.func12, Try.ntmps12
  go_wp2
  refine bodyPost_ret (results_cell_row_tmpK rfl _ _ w.heap.size 26 zkyC _ rfl (Bk.new w _ zkyC) Try.underlying26 rfl (by rfl)) rfl ?_
  exact ⟨rfl, (Below.refl _ w).alloc (Nat.le_refl _) _⟩

/-- Behind the lookup of the parts. -/
structure UnP (w0 W : World) (rb g : Nat) (k : Ky) (v t : Value) : Prop where
  cell : ∃ A, v = .slice A (kyParts k).length (kyParts k).length ∧ Rd W W.heap.size A (iv (kyParts k)) ∧ (∀ a, A = some a → g < a.block)
  is : t = .bool (partsOf k.kind).isSome
  res : Bk W rb 26 zkyC
  key : Bk W g 26 (kyC k)
  bel : Below w0.heap.size w0 W
set_option maxRecDepth 100000 in
set_option maxHeartbeats 8000000 in
theorem scUnpack1 {A0 : Option Addr} {c0 B n : Nat} {cb : Int} {rest : List Int} (w : World) (ha : Rb w B A0 (cb :: rest)) (hB : B ≤ w.heap.size) (hz : Byt (cb :: rest)) (hl : n ≤ 1000000) (hn : rest.length + 1 = n) (hc : n ≤ c0) :
    Calls Try.prog 12 #[.slice A0 n c0] w (UnPost w (unpOf (cb :: rest))) := by
  obtain ⟨r, hr⟩ : ∃ r, unpOf (cb :: rest) = r := ⟨_, rfl⟩
  rw [hr]
  obtain ⟨k0, hk0⟩ : ∃ k0 : Ky, { zeroKy with kind := cb } = k0 := ⟨_, rfl⟩
  have hkk : k0.kind = cb := by rw [← hk0]
  have hr2 : r = match partsOf k0.kind with | none => (zeroKy, 4) | some l => unpEnd (unpGo l rest k0 0) := by subst hk0; exact hr.symm
  have HR := Lib.hid hr2
  obtain ⟨b, o, rfl, hbb, hcell⟩ := Rd.get (k := 0) (u := .int .u8 cb) ha rfl
  have hzc := hz cb (by simp)
  have hb0 : Below w.heap.size w ((w.alloc (.cells zkyC 26)).alloc (.cells #[.int .i64 cb, .int .u64 0, .int .u64 0, .int .u64 0, .string ⟨#[]⟩, .string ⟨#[]⟩, .string ⟨#[]⟩, .int .u64 0, .int .i64 0] 26)) := ((Below.refl _ w).alloc (Nat.le_refl _) _).alloc (by simp) _
  have bkr := (Bk.new w 26 zkyC).alloc (.cells #[.int .i64 cb, .int .u64 0, .int .u64 0, .int .u64 0, .string ⟨#[]⟩, .string ⟨#[]⟩, .string ⟨#[]⟩, .int .u64 0, .int .i64 0] 26)
  have bk : Bk ((w.alloc (.cells zkyC 26)).alloc (.cells #[.int .i64 cb, .int .u64 0, .int .u64 0, .int .u64 0, .string ⟨#[]⟩, .string ⟨#[]⟩, .string ⟨#[]⟩, .int .u64 0, .int .i64 0] 26)) (w.heap.size + 1) 26 (kyC k0) := by
    have h := Bk.new (w.alloc (.cells zkyC 26)) 26 (kyC k0)
    rw [World.size_alloc, ← hk0] at h
    rw [← hk0]
    exact h
  have ha1 := (ha.below (Below.refl B w)).below (hb0.mono hB)
  have hcell0 : (w.alloc (.cells zkyC 26)).cell? ⟨b, o, none⟩ = some (.int .u8 cb) := (World.cell?_alloc_lt w _ ⟨b, o, none⟩ (by show b < _; omega)).trans hcell
  obtain ⟨w1, hw1⟩ : ∃ w1, (w.alloc (.cells zkyC 26)).alloc (.cells #[.int .i64 cb, .int .u64 0, .int .u64 0, .int .u64 0, .string ⟨#[]⟩, .string ⟨#[]⟩, .string ⟨#[]⟩, .int .u64 0, .int .i64 0] 26) = w1 := ⟨_, rfl⟩
  rw [hw1] at hb0 bk bkr ha1
  have HW := Lib.hid hw1
  obtain ⟨rb, hrb⟩ : ∃ rb, w.heap.size = rb := ⟨_, rfl⟩
  have hB2 : B ≤ rb := by omega
  rw [hrb] at bk bkr
  have HG := Lib.hid hrb
  have HB0 := Lib.hid hb0
  have HK0 := Lib.hid hk0
  have kd1 : w1.drew.cell? ⟨rb + 1, 0, none⟩ = some (.int .i64 cb) := by rw [← hkk]; exact bk.drew.cell 0
  have hn0 : ((n : Int) == 0) = false := by simp; omega
  have HKK := Lib.hid hkk
  have HA := Lib.hid ha
  clear hr hr2 hw1 hrb hb0 hk0 hkk ha
  have hsl : ∀ W, (Instr.slice 27 (.slice (some ⟨b, o, none⟩) n c0) (some (.int .i64 1)) none none).run Try.prog W = .ok (.slice (offA (some ⟨b, o, none⟩) c0 1) (n - 1) (c0 - 1)) W := fun W => run_slK W _ n c0 .i64 1 (by omega) (by omega)
  go_enter Try.func12, Try.ntmps12
  go_upto_region 4 with fail
  rw [HW.out, HG.out]
  go_cut [5, 6] from 25 to 31 (fun v t W => UnP w W rb (rb + 1) k0 v t)
  case first =>
    go_region_held3 (fun w' => w'.cell? ⟨rb + 1, 0, none⟩ = some (.int .i64 cb)) (go_keep)
      (first
        | (go_at_call 28
           refine (scParts _).mono ?_
           rintro e w3 ⟨pg, rfl, hp2, hpg, hb3⟩
           obtain ⟨A, hfar, hlk⟩ := parts_look2 pg k0.kind
           have hlkt : (Instr.lookup 65 (.map (some pg)) (.int .i64 cb) true).run Try.prog w3 = .ok (.tuple #[.slice A (kyParts k0).length (kyParts k0).length, .bool (partsOf k0.kind).isSome]) w3 := by rw [← HKK.out]; exact (hlk w3 hp2).2 true
           have HLK := Lib.hid hlk
           have HFA := Lib.hid hfar
           have kd2 : w3.cell? ⟨rb + 1, 0, none⟩ = some (.int .i64 cb) := by rw [← HKK.out]; exact (bk.drew.bS hb3).cell 0
           clear hlk hfar)
        | fail)
    all_goals
      go_wp2
      go_meet
      exact ⟨⟨A, rfl, (HLK.out w3 hp2).1, fun a ha => by have h1 := HFA.out a ha; have h2 := bk.lt; have h3 : w1.heap.size ≤ pg := hpg; omega⟩, rfl, bkr.drew.bS hb3, bk.drew.bS hb3, (below_drewN HB0.out 1).trans (hb3.mono HB0.out.size)⟩
  case rest =>
    obtain ⟨⟨A, rfl, hrd, hfar⟩, rfl, hres, hkey, hbel⟩ := hcut
    obtain ⟨op, ho⟩ : ∃ op, partsOf k0.kind = op := ⟨_, rfl⟩
    have hle : (kyParts k0).length ≤ 7 := partsOf_len k0.kind
    have hr2 := HR.out
    rw [ho] at hr2 ⊢
    have HO := Lib.hid ho
    clear ho HR kd1
    cases op with
    | none =>
      have HR2 := Lib.hid hr2
      clear hr2
      go_wp2_with (refine wpList_store_row rfl 26 (.tmp 2) (.tmp 34) rfl rb zkyC rfl rfl 26 zkyC hres (by rfl) rfl zkyC_one ?_)
      refine bodyPost_ret (results_cell_row_tmpK rfl _ _ rb 26 zkyC _ rfl (hres.rowK zkyC) Try.underlying26 rfl (by rfl)) rfl ?_
      rw [HR2.out]
      exact ⟨rfl, below_rowK hbel (by rw [← HG.out]; exact Nat.le_refl _) _⟩
    | some l =>
      have hlk : kyParts k0 = l := by rw [kyParts, HO.out]; rfl
      rw [hlk] at hrd hle ⊢
      simp only [Option.isSome_some] at hr2 ⊢
      have HR2 := Lib.hid hr2
      clear hr2 hlk
      go_upto_region 9 with fail
      have hrbw : w.heap.size = rb := HG.out
      have hbl := hbel.size
      have hq : UnQ w (wc.alloc (.cells #[.int .u64 0] 22)) rb (rb + 1) wc.heap.size A l (offA (some ⟨b, o, none⟩) c0 1) rest k0 0 :=
        ⟨hres.alloc _, hkey.alloc _, Bk.new wc _ _, hrd.alloc (Nat.le_refl _) _, hfar, by
          have h := (Rb.drop HA.out (k := 1) (cap := c0) (by simp; omega)).more hB2
          rw [← hrbw] at h ⊢
          exact (h.below hbel).alloc hbl _, hbel.alloc hbl _, by omega, by omega, hkey.lt⟩
      obtain ⟨W2, hW2⟩ : ∃ W2, wc.alloc (.cells #[.int .u64 0] 22) = W2 := ⟨_, rfl⟩
      have hs2 : W2.heap.size = wc.heap.size + 1 := by rw [← hW2]; simp
      rw [hW2] at hq ⊢
      obtain ⟨tb, htb⟩ : ∃ tb, wc.heap.size = tb := ⟨_, rfl⟩
      rw [htb] at hq hs2 ⊢
      have hm1t : tb < W2.heap.size := by omega
      have hm : Mp (W2.alloc (.map #[] 0)) W2.heap.size #[] := Mp.new W2
      have hq := hq.alloc (.map #[] 0)
      have hsz : (W2.alloc (.map #[] 0)).heap.size = W2.heap.size + 1 := World.size_alloc W2 _
      clear hW2 hs2 htb hrbw hbl hres hkey hrd hfar hbel hsl
      have hmm := @run_makeMap Try.prog
      go_upto_region 10 with (first
        | (refine wpList_insI _ (by rfl) (.tmp 37) _ _ 70 (by rfl) 3 69 .i64 Try.underlying70 Try.underlying3 W2.heap.size _ (by rfl) hm _ _ (by rfl) (by rfl) (by rfl) ?_
           intro w' hm2 hg2 hs2
           have hsz2 := hs2
           rw [hsz] at hsz2
           have hq2 := hq.grown hg2 hm1t
           clear hs2 hg2 hm hsz hq
           have hm := hm2
           have hsz := hsz2
           have hq := hq2
           clear hm2 hsz2 hq2)
        | fail)
      have hp1 : Mp w' W2.heap.size (numEs (rb + 1) tb) := hm
      have hne : W2.heap.size ≠ w'.heap.size := by omega
      have hm2t : tb < w'.heap.size := by omega
      have hlt12 : W2.heap.size < w'.heap.size := by omega
      clear hm hsz
      have hm : Mp (w'.alloc (.map #[] 0)) w'.heap.size #[] := Mp.new w'
      have hq := hq.alloc (.map #[] 0)
      have hp1 := hp1.alloc (.map #[] 0)
      have hsz : (w'.alloc (.map #[] 0)).heap.size = w'.heap.size + 1 := World.size_alloc w' _
      go_upto_region 11 with (first
        | (refine wpList_insI _ (by rfl) (.tmp 45) _ _ 72 (by rfl) 3 71 .i64 Try.underlying72 Try.underlying3 w'.heap.size _ (by rfl) hm _ _ (by rfl) (by rfl) (by rfl) ?_
           intro w4 hm2 hg2 hs2
           have hsz2 := hs2
           rw [hsz] at hsz2
           have hq2 := hq.grown hg2 hm2t
           have hp2 := hp1.grown hg2 hne
           clear hs2 hg2 hm hsz hq hp1
           have hm := hm2
           have hsz := hsz2
           have hq := hq2
           have hp1 := hp2
           clear hm2 hsz2 hq2 hp2)
        | fail)
      have hum : UnM w w4 rb (rb + 1) tb W2.heap.size w'.heap.size A l (offA (some ⟨b, o, none⟩) c0 1) rest k0 0 :=
        ⟨hq.res, hq.key, hq.att, hp1, hm, hq.parts, hq.pfar, hq.bytes, hq.bel, hq.o1, hq.o2, hq.o3, hm1t, hlt12⟩
      obtain ⟨m1, hm1⟩ : ∃ m1, W2.heap.size = m1 := ⟨_, rfl⟩
      obtain ⟨m2, hm2⟩ : ∃ m2, w'.heap.size = m2 := ⟨_, rfl⟩
      rw [hm1, hm2] at hum
      rw [hm1, hm2]
      clear hm1 hm2 hm1t hm2t hlt12 hne hm hsz hp1 hq hmm
      obtain ⟨X, hX⟩ : ∃ X, unpGo l rest k0 0 = X := ⟨_, rfl⟩
      have hr3 : r = unpEnd (unpGo l rest k0 0) := HR2.out
      rw [hX] at hr3
      have HR3 := Lib.hid hr3
      have hl7 : l.length ≤ 7 := hle
      have HRNG : Hid (∀ p ∈ l, 0 ≤ p ∧ p < 8) := by
        have h := partsOf_rng k0.kind
        rw [HO.out] at h
        exact Lib.hid h
      have HX := Lib.hid hX
      obtain ⟨m, hm⟩ : ∃ m, l.length = m := ⟨_, rfl⟩
      rw [hm] at hl7 ⊢
      have HM := Lib.hid hm
      have hbyt : Byt rest := fun y hy => hz y (List.mem_cons_of_mem _ hy)
      clear hr3 HR2 hle hX hm hn0 hzc hcell hcell0
      go_wp2
      go_loopw [0, 52] (fun v i wr => ∃ (Ab : Option Addr) (c j : Nat) (bb : List Int) (k : Ky) (t : Nat), v = .slice Ab bb.length c ∧ i = .int .i64 j ∧ j ≤ m ∧ UnM w wr rb (rb + 1) tb m1 m2 A l Ab bb k t ∧ bb.length ≤ c ∧ Byt bb ∧ bb.length ≤ 1000000 ∧ k.kind = cb ∧ unpGo (l.drop j) bb k t = X) (fun _ i _ => m - (intOf i).toNat)
      case atStart => exact ⟨_, c0 - 1, 0, rest, k0, 0, by rw [← hn]; rfl, rfl, Nat.zero_le _, hum, by omega, hbyt, by omega, HKK.out, HX.out⟩
      case round =>
        obtain ⟨Ab, c, j, bb, k, t, rfl, rfl, hj, um, hcc, hby, hbl, hkd, hgo⟩ := hrel
        have HGO := Lib.hid hgo
        have HKD := Lib.hid hkd
        obtain ⟨ln, hln⟩ : ∃ ln, bb.length = ln := ⟨_, rfl⟩
        rw [hln] at hcc hbl ⊢
        have HLN := Lib.hid hln
        clear hgo hkd hum hbyt hln
        by_cases hlt : j < m
        · have hlt' : (j : Int) < (m : Int) := by omega
          obtain ⟨p, hp⟩ : ∃ p, l[j]? = some p := ⟨_, List.getElem?_eq_getElem (by rw [HM.out]; exact hlt)⟩
          obtain ⟨bp, po, rfl, hbp, hpc⟩ := um.parts.get (iv_get hp)
          have hrg := HRNG.out p (List.mem_of_getElem? hp)
          have HD : Hid (l.drop j = p :: l.drop (j + 1)) := by
            obtain ⟨h, e⟩ := List.getElem?_eq_some_iff.1 hp
            rw [List.drop_eq_getElem_cons h, e]
            exact Lib.hid rfl
          have hlk := num_look um.mp1 p hrg.1 hrg.2
          cases htx : isTxt p with
          | false =>
            by_cases h8 : ln < 8
            · obtain ⟨bl, po2, hna, ⟨old, hold⟩, hfr, um2⟩ := um.num hrg.1 hrg.2 htx 0
              rw [hna] at hlk
              have HE : Hid (r = (zeroKy, 12)) := by
                rw [HR3.out, ← HGO.out, HD.out, unpGo_short htx (by rw [HLN.out]; exact h8)]
                exact Lib.hid rfl
              have hres := um2.res
              have HUM := Lib.hid um2
              have HUM1 := Lib.hid um
              clear hna hp htx hrg um um2
              go_upto_region 21 with (go_at_call 30; refine (wireReadOrdered0 _ h8).mono ?_; rintro e w' ⟨rfl, rfl⟩)
              go_wp2_with ((refine wpList_store_row rfl 26 (.tmp 2) (.tmp 81) rfl rb zkyC rfl rfl 26 zkyC hres (by rfl) rfl zkyC_one ?_))
              refine bodyPost_ret (results_cell_row_tmpK rfl _ _ rb 26 zkyC _ rfl (hres.rowK zkyC) Try.underlying26 rfl (by rfl)) rfl ?_
              rw [HE.out]
              exact ⟨rfl, below_rowK HUM.out.bel HUM.out.o1 _⟩
            · obtain ⟨x, hx⟩ : ∃ x, ordVal (bb.take 8) = x := ⟨_, rfl⟩
              obtain ⟨bl, po2, hna, ⟨old, hold⟩, hfr, um2⟩ := um.num hrg.1 hrg.2 htx x
              rw [hna] at hlk
              have cr := wireReadOrdered1 wr um.bytes hby (by simp only [maxLen]; rw [HLN.out]; omega) (show 8 ≤ ln by omega) HLN.out hcc
              rw [hx] at cr
              have hsl : ∀ W, (Instr.slice 27 (.slice Ab ln c) (some (.int .i64 8)) none none).run Try.prog W = .ok (.slice (offA Ab c 8) (ln - 8) (c - 8)) W := fun W => run_slK W _ ln c .i64 8 (by omega) (by omega)
              have HG2 : Hid (unpGo (l.drop (j + 1)) (bb.drop 8) (putN k p x) (putT t p x) = X) := by
                rw [← HGO.out, HD.out, unpGo_num htx (by rw [HLN.out]; omega), hx]
                exact Lib.hid rfl
              have HKN : Hid ((putN k p x).kind = cb) := by rw [putN_kind]; exact HKD
              have CR := Lib.hid cr
              have HUM := Lib.hid um2
              have HUM1 := Lib.hid um
              clear hna hp htx hrg um um2 cr hx
              go_wp2_with (go_at_call 30; refine CR.out.mono ?_; rintro e w' ⟨rfl, rfl⟩)
              go_roundw
              case rel => exact ⟨offA Ab c 8, c - 8, j + 1, bb.drop 8, _, _, by rw [List.length_drop, HLN.out], by go_num, by omega, HUM.out.drop (by rw [HLN.out]; exact hcc), by rw [List.length_drop, HLN.out]; omega, hby.drop 8, by rw [List.length_drop, HLN.out]; omega, HKN.out, HG2.out⟩
              case measure => simp [intOf]; omega
          | true =>
            obtain ⟨po2, hta, hna, hum⟩ := um.txt htx
            rw [hna] at hlk
            have hlt2 := fun (W : World) (h : Mp W m2 (txtEs (rb + 1))) => (txt_look h p hrg.1 hrg.2)
            rw [hta] at hlt2
            have hl0 := hlt2 wr.drew um.mp2
            have cr := wireReadOrderedText (c := c) wr.drew um.bytes.drew (show rb ≤ wr.drew.heap.size from by have := um.res.lt; show rb ≤ wr.heap.size; omega) hby (by rw [HLN.out]; omega) HLN.out
            cases hto : txtOf bb with
            | inr e =>
              rw [hto] at cr
              have he0 : e ≠ 0 := by have := txtOf_err hto; omega
              have HE : Hid (r = (zeroKy, e)) := by
                rw [HR3.out, ← HGO.out, HD.out, unpGo_txtBad htx hto]
                exact Lib.hid rfl
              have d : ((e : Int) != 0) = true := by rw [bne_iff_ne]; omega
              have CR := Lib.hid cr
              have HUM1 := Lib.hid um
              have HUM := Lib.hid hum
              have HLT := Lib.hid hlt2
              clear hna hta hp htx hrg um hum cr hto hlt2 he0
              go_upto_region 19 with fail
              go_region_with (first
                | (go_at_call 31
                   refine CR.out.mono ?_
                   rintro en w5 ⟨rfl, hb5⟩
                   have hbb := (below_drewN (Below.refl _ wr) 1).trans (hb5.mono (Nat.le_refl _))
                   have hl1 := HLT.out w5 (HUM1.out.below hbb).mp2
                   obtain ⟨⟨old, hold⟩, hfr, hst⟩ := HUM.out w5 hbb
                   have hres := (hst ByteArray.empty).res
                   have HST := Lib.hid hst
                   clear hst)
                | fail)
              all_goals
                go_upto_region 21 with fail
                go_wp2_with (refine wpList_store_row rfl 26 (.tmp 2) (.tmp 81) rfl rb zkyC rfl rfl 26 zkyC hres (by rfl) rfl zkyC_one ?_)
                refine bodyPost_ret (results_cell_row_tmpK rfl _ _ rb 26 zkyC _ rfl (hres.rowK zkyC) Try.underlying26 rfl (by rfl)) rfl ?_
                rw [HE.out]
                exact ⟨rfl, below_rowK (HST.out ByteArray.empty).bel (HST.out ByteArray.empty).o1 _⟩
            | inl oi =>
              obtain ⟨o2, i⟩ := oi
              rw [hto] at cr
              have hil := txtOf_le hto
              rw [HLN.out] at hil
              have hsl : ∀ W, (Instr.slice 27 (.slice Ab ln c) (some (.int .i64 (i : Nat))) none none).run Try.prog W = .ok (.slice (offA Ab c i) (ln - i) (c - i)) W := fun W => by
                have h := run_slK W Ab ln c .i64 i (by omega) (by omega)
                simpa using h
              obtain ⟨s, hs⟩ : ∃ s, strOfNums o2 = s := ⟨_, rfl⟩
              have HG2 : Hid (unpGo (l.drop (j + 1)) (bb.drop i) (putS k p s) t = X) := by
                rw [← HGO.out, HD.out, unpGo_txt htx hto, hs]
                exact Lib.hid rfl
              have HKN : Hid ((putS k p s).kind = cb) := by rw [putS_kind]; exact HKD
              have cr2 : Calls Try.prog 31 #[.slice Ab ln c] wr.drew fun e w' => e = .returned (.tuple #[.string s, .int .i64 i, .int .i64 0]) ∧ Below wr.drew.heap.size wr.drew w' := by rw [← hs]; exact cr
              have CR := Lib.hid cr2
              have HUM1 := Lib.hid um
              have HUM := Lib.hid hum
              have HLT := Lib.hid hlt2
              clear hna hta hp htx hrg um hum cr cr2 hto hlt2 hs
              go_upto_region 19 with fail
              go_region_with (first
                | (go_at_call 31
                   refine CR.out.mono ?_
                   rintro en w5 ⟨rfl, hb5⟩
                   have hbb := (below_drewN (Below.refl _ wr) 1).trans (hb5.mono (Nat.le_refl _))
                   have hl1 := HLT.out w5 (HUM1.out.below hbb).mp2
                   obtain ⟨⟨old, hold⟩, hfr, hst⟩ := HUM.out w5 hbb
                   have HST := Lib.hid (hst s)
                   clear hst)
                | fail)
              all_goals
                go_wp2
                go_roundw
                case rel => exact ⟨offA Ab c i, c - i, j + 1, bb.drop i, _, _, by rw [List.length_drop, HLN.out], by go_num, by omega, HST.out.drop (by rw [HLN.out]; exact hcc), by rw [List.length_drop, HLN.out]; omega, hby.drop i, by rw [List.length_drop, HLN.out]; omega, HKN.out, HG2.out⟩
                case measure => simp [intOf]; omega
        · have hlt' : decide ((j : Int) < (m : Int)) = false := by simp; omega
          have HE0 : Hid (r = unpEnd (.inl (k, t, bb))) := by
            rw [HR3.out, ← HGO.out, List.drop_eq_nil_of_le (by rw [HM.out]; omega), unpGo]
            exact Lib.hid rfl
          have hres := um.res
          have ka : wr.cell? ⟨tb, 0, none⟩ = some (.int .u64 t) := um.att.cell 0
          have k0' : wr.cell? ⟨rb + 1, 0, none⟩ = some (.int .i64 k.kind) := um.key.cell 0
          have k7 : wr.cell? ⟨rb + 1, 7, none⟩ = some (.int .u64 k.number) := um.key.cell 7
          have k8 : wr.cell? ⟨rb + 1, 8, none⟩ = some (.int .i64 k.start) := um.key.cell 8
          have k8f : wr.frozen? ⟨rb + 1, 8, none⟩ = false := um.key.frozen 8
          have HUM := Lib.hid um
          have hcs : (ln ≠ 0 ∧ r = (zeroKy, 4)) ∨ (ln = 0 ∧ 4611686018427387903 < t ∧ r = (zeroKy, 4)) ∨ (ln = 0 ∧ t ≤ 4611686018427387903 ∧ k.kind = 100 ∧ 4611686018427387903 < k.number ∧ r = (zeroKy, 4)) ∨
              (ln = 0 ∧ t ≤ 4611686018427387903 ∧ (k.kind = 100 ∧ k.number ≤ 4611686018427387903) ∧ r = if kyChk { k with start := t } ≠ 0 then (zeroKy, kyChk { k with start := t }) else ({ k with start := t }, 0)) ∨
              (ln = 0 ∧ t ≤ 4611686018427387903 ∧ k.kind ≠ 100 ∧ r = if kyChk { k with start := t } ≠ 0 then (zeroKy, kyChk { k with start := t }) else ({ k with start := t }, 0)) := by
            have h := HE0.out
            unfold unpEnd at h
            simp only at h
            have hbe : bb ≠ [] ↔ ln ≠ 0 := by
              have := HLN.out
              constructor
              · rintro h rfl; exact h (List.eq_nil_of_length_eq_zero (by omega))
              · rintro h rfl; simp at this; omega
            by_cases c1 : ln = 0
            · by_cases c2 : 4611686018427387903 < t
              · rw [if_pos (.inr (.inl c2))] at h
                exact .inr (.inl ⟨c1, c2, h⟩)
              · by_cases c3 : k.kind = 100
                · by_cases c4 : 4611686018427387903 < k.number
                  · rw [if_pos (.inr (.inr ⟨c3, c4⟩))] at h
                    exact .inr (.inr (.inl ⟨c1, by omega, c3, c4, h⟩))
                  · rw [if_neg (by rintro (h1 | h1 | h1); exact hbe.1 h1 c1; exact c2 h1; exact c4 h1.2)] at h
                    exact .inr (.inr (.inr (.inl ⟨c1, by omega, ⟨c3, by omega⟩, h⟩)))
                · rw [if_neg (by rintro (h1 | h1 | h1); exact hbe.1 h1 c1; exact c2 h1; exact c3 h1.1)] at h
                  exact .inr (.inr (.inr (.inr ⟨c1, by omega, c3, h⟩)))
            · rw [if_pos (.inl (hbe.2 c1))] at h
              exact .inl ⟨c1, h⟩
          clear um
          rcases hcs with ⟨c1, he⟩ | ⟨c1, c2, he⟩ | ⟨c1, c2, c3, c4, he⟩ | ⟨c1, c2, c3, he⟩ | ⟨c1, c2, c3, he⟩
          case inl =>
            have HE := Lib.hid he
            have d1 : decide ((0 : Int) < (ln : Int)) = true := by simp; omega
            clear he
            go_upto_region 25 with fail
            go_wp2_with (refine wpList_store_row rfl 26 (.tmp 2) (.tmp 104) rfl rb zkyC rfl rfl 26 zkyC hres (by rfl) rfl zkyC_one ?_)
            refine bodyPost_ret (results_cell_row_tmpK rfl _ _ rb 26 zkyC _ rfl (hres.rowK zkyC) Try.underlying26 rfl (by rfl)) rfl ?_
            rw [HE.out]
            exact ⟨rfl, below_rowK HUM.out.bel HUM.out.o1 _⟩
          case inr.inl =>
            subst c1
            have HE := Lib.hid he
            have d2 : decide ((4611686018427387903 : Int) < (t : Int)) = true := by simp; omega
            clear he
            go_upto_region 25 with fail
            go_wp2_with (refine wpList_store_row rfl 26 (.tmp 2) (.tmp 104) rfl rb zkyC rfl rfl 26 zkyC hres (by rfl) rfl zkyC_one ?_)
            refine bodyPost_ret (results_cell_row_tmpK rfl _ _ rb 26 zkyC _ rfl (hres.rowK zkyC) Try.underlying26 rfl (by rfl)) rfl ?_
            rw [HE.out]
            exact ⟨rfl, below_rowK HUM.out.bel HUM.out.o1 _⟩
          case inr.inr.inl =>
            subst c1
            have HE := Lib.hid he
            have d2 : decide ((4611686018427387903 : Int) < (t : Int)) = false := by simp; omega
            have d3 : (k.kind == 100) = true := by rw [beq_iff_eq]; exact c3
            have d4 : decide ((4611686018427387903 : Int) < (k.number : Int)) = true := by simp; omega
            clear he c3
            go_upto_region 25 with fail
            go_wp2_with (refine wpList_store_row rfl 26 (.tmp 2) (.tmp 104) rfl rb zkyC rfl rfl 26 zkyC hres (by rfl) rfl zkyC_one ?_)
            refine bodyPost_ret (results_cell_row_tmpK rfl _ _ rb 26 zkyC _ rfl (hres.rowK zkyC) Try.underlying26 rfl (by rfl)) rfl ?_
            rw [HE.out]
            exact ⟨rfl, below_rowK HUM.out.bel HUM.out.o1 _⟩
          all_goals
            subst c1
            have d2 : decide ((4611686018427387903 : Int) < (t : Int)) = false := by simp; omega
            first
              | (have d3 : (k.kind == 100) = true := by rw [beq_iff_eq]; exact c3.1
                 have d4 : decide ((4611686018427387903 : Int) < (k.number : Int)) = false := by have := c3.2; simp; omega)
              | (have d3 : (k.kind == 100) = false := by rw [beq_eq_false_iff_ne]; exact c3)
            obtain ⟨k', hk'⟩ : ∃ k' : Ky, { k with start := (t : Int) } = k' := ⟨_, rfl⟩
            rw [hk'] at he
            have um2 : UnM w (wr.setCell ⟨rb + 1, 8, none⟩ (.int .i64 t)) rb (rb + 1) tb m1 m2 A l Ab bb k' t := by rw [← hk']; exact HUM.out.setKey 8 _ rfl
            obtain ⟨W5, hW5⟩ : ∃ W5, wr.setCell ⟨rb + 1, 8, none⟩ (.int .i64 t) = W5 := ⟨_, rfl⟩
            rw [hW5] at um2
            have HW5 := Lib.hid hW5
            have la := loadK_ky um2.key
            obtain ⟨q, hq'⟩ : ∃ q, kyChk k' = q := ⟨_, rfl⟩
            have cc := scCheck k' W5
            rw [hq'] at he cc
            have CC := Lib.hid cc
            have HE := Lib.hid he
            have HUM2 := Lib.hid um2
            clear c3 he hk' hW5 hq' cc um2
            go_upto_region 27 with fail
            rw [HW5.out]
            by_cases hq0 : q = 0
            · subst hq0
              go_upto_region 30 with (go_at_call 16; refine CC.out.mono ?_; rintro e w6 ⟨rfl, hb6⟩; have u6 := HUM2.out.below hb6; have la6 := loadK_ky u6.key; have r6 := u6.res)
              go_wp2_with (refine wpList_store_row rfl 26 (.tmp 2) (.tmp 114) rfl rb (kyC k') rfl rfl 26 zkyC r6 (by rfl) rfl (kyC_one k') ?_)
              refine bodyPost_ret (results_cell_row_tmpK rfl _ _ rb 26 (kyC k') _ rfl (r6.rowK (kyC k')) Try.underlying26 rfl (by rfl)) rfl ?_
              rw [HE.out]
              exact ⟨rfl, below_rowK u6.bel u6.o1 _⟩
            · have d5 : ((q : Int) != 0) = true := by rw [bne_iff_ne]; omega
              have HQ0 := Lib.hid hq0
              clear hq0
              go_upto_region 29 with (go_at_call 16; refine CC.out.mono ?_; rintro e w6 ⟨rfl, hb6⟩; have u6 := HUM2.out.below hb6; have la6 := loadK_ky u6.key; have r6 := u6.res)
              go_wp2_with (refine wpList_store_row rfl 26 (.tmp 2) (.tmp 112) rfl rb zkyC rfl rfl 26 zkyC r6 (by rfl) rfl zkyC_one ?_)
              refine bodyPost_ret (results_cell_row_tmpK rfl _ _ rb 26 zkyC _ rfl (r6.rowK zkyC) Try.underlying26 rfl (by rfl)) rfl ?_
              rw [HE.out, if_pos HQ0.out]
              exact ⟨rfl, below_rowK u6.bel u6.o1 _⟩
end Go.Proofs.Ytlamebbolioljaa
