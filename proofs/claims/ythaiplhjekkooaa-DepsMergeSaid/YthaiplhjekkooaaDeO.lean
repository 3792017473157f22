/- deps: Edges. -/
import Derived.Test.YthaiplhjekkooaaDeM
import Derived.Test.YthaiplhjekkooaaDeJ
import Derived.Test.YthaiplhjekkooaaSpL
import Derived.Test.YthaiplhjekkooaaCel
namespace Go.Proofs.Ythaiplhjekkooaa
open Go.RowKit Go.MapKept
theorem loadSp_shutO (a : Addr) : loadVar 43 a = loadK 43 a := rfl
theorem loadAd_shutO (a : Addr) : loadVar 45 a = loadK 45 a := rfl
attribute [local go_sem ↓] loadSp_shutO loadAd_shutO
set_option maxRecDepth 100000 in
theorem loadK_adSpB {w : World} {g : Nat} {e : AE} (h : Bk w g 45 (adC e.a e.A e.n e.c)) : (loadK 43 ⟨g, 0, none⟩).run Try.prog w = .ok (spvE e) w :=
  run_loadVar_cells w _ _ ⟨g, 0, none⟩ (spC e.a.s e.A e.n e.c).toList Try.underlying43 rfl (by rfl) (fun j v hv => by
    have hj : j < 11 := (List.getElem?_eq_some_iff.1 hv).1
    rw [Addr.add_lit, Nat.zero_add, h.cell j, ← hv]
    have : j = 0 ∨ j = 1 ∨ j = 2 ∨ j = 3 ∨ j = 4 ∨ j = 5 ∨ j = 6 ∨ j = 7 ∨ j = 8 ∨ j = 9 ∨ j = 10 := by omega
    rcases this with rfl | rfl | rfl | rfl | rfl | rfl | rfl | rfl | rfl | rfl | rfl <;> rfl)
theorem idRun : KeyRun Try.prog 29 idV := intRun Try.underlying29
set_option maxRecDepth 100000 in
set_option maxHeartbeats 8000000 in
theorem deEdges {A : Option Addr} {n c B : Nat} (l : List AE) (size : Int) (w : World) (h : RbA w B A l) (hn : l.length = n) (hB : B ≤ w.heap.size) (hnl : n ≤ 200) (hs0 : -9223372036854775808 ≤ size) (hs1 : size ≤ 9223372036854775807)
    (hst : ∀ e ∈ l, e.a.s.start ≤ 9223372036854775807 ∧ -9223372036854775808 ≤ e.a.s.start) :
    Calls Try.prog 10 #[.slice A n c, .int .i64 size] w (EdgC l size w) := by
  have hb0 : Below w.heap.size w (w.alloc (.map #[] 0)) := (Below.refl _ w).alloc (Nat.le_refl _) _
  have m0 := Mg.new (kv := idV) (vv := spvE) w
  obtain ⟨w1, hw1⟩ : ∃ w1, w.alloc (.map #[] 0) = w1 := ⟨_, rfl⟩
  obtain ⟨b, hb⟩ : ∃ b, w.heap.size = b := ⟨_, rfl⟩
  rw [hw1] at hb0 m0
  rw [hb] at m0
  have HP := Lib.hid (show EdgC l size w = EdgC l size w from rfl)
  have HW := Lib.hid hw1
  have HG := Lib.hid hb
  have HN := Lib.hid hn
  have HST := Lib.hid hst
  have HH := Lib.hid h
  have HM0 := Lib.hid m0
  have HB0 := Lib.hid hb0
  clear hw1 hb hn hst h m0 hb0
  have hmm := @run_makeMap Try.prog
  go_enter Try.func10, Try.ntmps10
  go_wp2_with fail
  rw [HW.out, HG.out]
  go_loopw [24] (fun i_ wr => ∃ i : Nat, i ≤ n ∧ i_ = .int .i64 i ∧ Hid (Mg idV spvE wr b (atTo (l.take i))) ∧ Hid (Below w.heap.size w wr)) (fun i_ _ => n - (intOf i_).toNat)
  case atStart => exact ⟨0, by omega, rfl, HM0, HB0⟩
  case round =>
    obtain ⟨i, hi, rfl, HM, HB⟩ := hrel
    by_cases hlt : i < n
    · have hlt' : (i : Int) < (n : Int) := by omega
      obtain ⟨x, hx⟩ : ∃ x, l[i]? = some x := ⟨_, List.getElem?_eq_getElem (by rw [HN.out]; exact hlt)⟩
      obtain ⟨ob, oo, eA, hbb, hc, hok⟩ := (HH.out.below (HB.out.mono hB)).get hx
      subst eA
      have hld := loadK_ae hc
      have HX := Lib.hid hx
      have bk := Bk.new wr 45 (adC x.a x.A x.n x.c)
      have hsp := loadK_adSpB bk
      have HM2 := Lib.hid (HM.out.alloc (.cells (adC x.a x.A x.n x.c) 45))
      have HB2 := Lib.hid (HB.out.alloc HB.out.size (.cells (adC x.a x.A x.n x.c) 45))
      clear hx hc hok bk
      go_wp2_with (first
        | (refine wpList_mgPut _ rfl (.tmp 28) (.tmp 31) (.tmp 33) 63 rfl idRun Try.underlying63 b _ rfl HM2.out x.a.s.id x rfl rfl ?_
           rintro w3 hm3 hg3 hs3)
        | fail)
      exact ⟨⟨i + 1, by omega, by go_num, Lib.hid (by rw [take_snoc HX.out, atTo_snoc]; exact hm3), Lib.hid (HB2.out.trans (below_grownJ hg3 HB2.out.size (fun j hj => by have h1 := Option.some.inj hj; have h2 := HG.out; omega)))⟩, by simp only [intOf]; omega⟩
    · have hlt' : decide ((i : Int) < (n : Int)) = false := by simp; omega
      obtain rfl : i = n := by omega
      have hm := HM.out
      rw [List.take_of_length_le (by rw [HN.out]; omega)] at hm
      obtain ⟨M, hMM⟩ : ∃ M, atTo l = M := ⟨_, rfl⟩
      rw [hMM] at hm
      have HMM := Lib.hid hMM
      have hlen := run_mgLen (P := Try.prog) Try.underlying63 hm
      obtain ⟨q, hq⟩ : ∃ q, M.length = q := ⟨_, rfl⟩
      rw [hq] at hlen
      have HQ := Lib.hid hq
      have hlenF : Hid (∀ W, Mg idV spvE W b M → ∀ ty, (Builtin.len_ #[63] ty #[.map (some b)]).run Try.prog W = .ok (.int .i64 q) W) := Lib.hid fun W hW ty => by rw [← HQ.out]; exact run_mgLen Try.underlying63 hW ty
      have HMg := Lib.hid hm
      clear hMM hq HM hm hlt'
      by_cases hz : size < 1
      · have hz' : decide (size < 1) = true := by simp [hz]
        go_wp2_with fail
        go_ret2
        exact ⟨HB.out, .inl ⟨.inl hz, rfl⟩⟩
      have hz' : decide (size < 1) = false := by simp; omega
      by_cases hqn : q = i
      · have hqn' : ((q : Int) != (i : Int)) = false := by simp; omega
        have hneg := deHasNeg (c := c) wr (HH.out.below (HB.out.mono hB)) HN.out (Nat.le_trans hB HB.out.size) (by omega)
        obtain ⟨ng, hng⟩ : ∃ ng, l.any negA = ng := ⟨_, rfl⟩
        rw [hng] at hneg
        have HNG := Lib.hid hng
        clear hng
        cases ng with
        | true =>
          go_wp2_with (go_at_call 32; refine hneg.mono ?_; rintro en w4 ⟨rfl, hb4⟩)
          go_ret2
          exact ⟨HB.out.trans (hb4.mono HB.out.size), .inl ⟨.inr (.inr HNG.out), rfl⟩⟩
        | false =>
          have HNB := Lib.hid (show ¬ (size < 1 ∨ (atTo l).length ≠ l.length ∨ l.any negA = true) by
            rw [HMM.out, HQ.out, HN.out, HNG.out]
            rintro (h1 | h1 | h1)
            · exact hz h1
            · exact h1 hqn
            · cases h1)
          go_wp2_with (go_at_call 32; refine hneg.mono ?_; rintro en w4 ⟨rfl, hb4⟩)
          have HB4 := Lib.hid (HB.out.trans (hb4.mono HB.out.size))
          have HM4 := Lib.hid (HMg.out.bS hb4)
          clear hlen hneg hb4 HMg HB hqn' hqn hlenF
          go_loopw [50] (fun i_ wr2 => ∃ j : Nat, j ≤ i ∧ i_ = .int .i64 j ∧ Hid (spErr (l.map (·.a.s)) = spErr ((l.map (·.a.s)).drop j)) ∧ Hid (Mg idV spvE wr2 b M) ∧ Hid (Below w.heap.size w wr2)) (fun i_ _ => i - (intOf i_).toNat)
          case atStart => exact ⟨0, by omega, rfl, Lib.hid rfl, HM4, HB4⟩
          case round =>
            obtain ⟨j, hj, rfl, HS, HM, HB⟩ := hrel
            by_cases hlt : j < i
            · have hlt' : (j : Int) < (i : Int) := by omega
              obtain ⟨x, hx⟩ : ∃ x, l[j]? = some x := ⟨_, List.getElem?_eq_getElem (by rw [HN.out]; exact hlt)⟩
              obtain ⟨ob, oo, eA, hbb, hc, hok⟩ := (HH.out.below (HB.out.mono hB)).get hx
              subst eA
              have hld := loadK_ae hc
              have hgx : (l.map (·.a.s))[j]? = some x.a.s := by simp [hx]
              have hds := spErr_dropD hgx
              rw [← HS.out] at hds
              have bk := Bk.new wr 45 (adC x.a x.A x.n x.c)
              have hsp := loadK_adSpB bk
              have hbA := (Below.refl wr.heap.size wr).alloc (Nat.le_refl _) (.cells (adC x.a x.A x.n x.c) 45)
              have HM2 := Lib.hid (HM.out.alloc (.cells (adC x.a x.A x.n x.c) 45))
              have HB2 := Lib.hid (HB.out.alloc HB.out.size (.cells (adC x.a x.A x.n x.c) 45))
              have cc := spCheck (c := x.c) x.a.s (wr.alloc (.cells (adC x.a x.A x.n x.c) 45)) (hok.below (hbA.mono (Nat.le_trans hB HB.out.size))).rd hok.len (Nat.le_trans hB HB2.out.size) hok.max
              obtain ⟨ck, hck⟩ : ∃ ck, spChk x.a.s = ck := ⟨_, rfl⟩
              rw [hck] at cc hds
              have HDS := Lib.hid hds
              clear hds hck hx hgx hok hc HS bk hbA HM HB
              go_wp2_with fail
              refine cc.mono ?_
              rintro en w5 ⟨rfl, hb5⟩
              have HB5 := Lib.hid (HB2.out.trans (hb5.mono HB2.out.size))
              have HM5 := Lib.hid (HM2.out.bS hb5)
              clear hb5
              by_cases h0 : ck = 0
              · subst h0
                go_wp2_with fail
                exact ⟨⟨j + 1, by omega, by go_num, Lib.hid (by rw [HDS.out]; simp), HM5, HB5⟩, by simp only [intOf]; omega⟩
              · have h0' : ((ck : Int) != 0) = true := by simp; omega
                have hse : spErr (l.map (·.a.s)) = ck := by rw [HDS.out, if_pos h0]
                go_wp2_with fail
                go_ret2
                exact ⟨HB5.out, .inr ⟨HNB.out, .inl ⟨by rw [hse]; exact h0, by rw [hse]; rfl⟩⟩⟩
            · have hlt' : decide ((j : Int) < (i : Int)) = false := by simp; omega
              have HZ0 := Lib.hid (show spErr (l.map (·.a.s)) = 0 by rw [HS.out, List.drop_eq_nil_of_le (by rw [List.length_map, HN.out]; omega)]; rfl)
              have m2 := Mg.new (kv := ekV) (vv := uvV) wr
              have mA := HM.out.alloc (.map #[] 0)
              have hb6 := HB.out.alloc HB.out.size (.map #[] 0)
              obtain ⟨b2, hb2⟩ : ∃ b2, wr.heap.size = b2 := ⟨_, rfl⟩
              obtain ⟨w6, hw6⟩ : ∃ w6, wr.alloc (.map #[] 0) = w6 := ⟨_, rfl⟩
              have hlb : b < b2 := by rw [← hb2]; exact HM.out.lt
              have hlw : w.heap.size ≤ b2 := by rw [← hb2]; exact HB.out.size
              rw [hb2, hw6] at m2
              rw [hw6] at mA hb6
              have HMA := Lib.hid mA
              have HM2 := Lib.hid m2
              have HB6 := Lib.hid hb6
              have HW6 := Lib.hid hw6
              have HB2 := Lib.hid hb2
              clear HS m2 mA hb6 hw6 hb2 HM HB HM4 HB4
              go_wp2_with fail
              rw [HW6.out, HB2.out]
              clear hlt hlt' hj
              go_loopw [64] (fun i_ wr3 => ∃ k : Nat, k ≤ i ∧ i_ = .int .i64 k ∧ Hid (Mg idV spvE wr3 b M) ∧ Hid (Mg ekV uvV wr3 b2 (mgAll ((l.take k).filterMap (callC size M)) [])) ∧ Hid (Below w.heap.size w wr3)) (fun i_ _ => i - (intOf i_).toNat)
              case atStart => exact ⟨0, by omega, rfl, HMA, HM2, HB6⟩
              case round =>
                obtain ⟨k, hk, rfl, HM, HE, HB⟩ := hrel
                by_cases hki : k < i
                · have hki' : (k : Int) < (i : Int) := by omega
                  obtain ⟨x, hx⟩ : ∃ x, l[k]? = some x := ⟨_, List.getElem?_eq_getElem (by rw [HN.out]; exact hki)⟩
                  obtain ⟨ob, oo, eA, hbb, hc, hok⟩ := (HH.out.below (HB.out.mono hB)).get hx
                  subst eA
                  have hld := loadK_ae hc
                  have HX := Lib.hid hx
                  have hA2 := HM.out.alloc (.cells (adC x.a x.A x.n x.c) 45)
                  have hlk := run_mgLook (z := .agg zspC) (e := 43) idRun Try.underlying63 (by simp [Try.zeroValue43]) hA2 x.a.up true
                  have HB7 := Lib.hid (HB.out.alloc HB.out.size (.cells (adC x.a x.A x.n x.c) 45))
                  have HM7 := Lib.hid hA2
                  have HE7 := Lib.hid (HE.out.alloc (.cells (adC x.a x.A x.n x.c) 45))
                  have hstep : ∀ r, r = callC size M x → mgAll ((l.take (k + 1)).filterMap (callC size M)) [] = match r with | some e => addK (edK e) e.n (mgAll ((l.take k).filterMap (callC size M)) []) | none => mgAll ((l.take k).filterMap (callC size M)) [] := fun r hr => by
                    rw [take_snoc HX.out, List.filterMap_append]
                    cases r with
                    | none =>
                      rw [show [x].filterMap (callC size M) = [] by simp [← hr], List.append_nil]
                    | some e =>
                      rw [show [x].filterMap (callC size M) = [e] by simp [← hr], mgAll_snoc]
                  have HSTEP := Lib.hid hstep
                  have hxs := HST.out x (List.mem_of_getElem? hx)
                  clear hx hc hok hA2 hstep HM HE HB
                  cases hup : mgGet x.a.up M with
                  | none =>
                    rw [hup] at hlk
                    simp only [if_true, Option.map_none, Option.getD_none, Option.isSome_none] at hlk
                    have hcn : callC size M x = none := by rw [callC, hup]
                    have hst2 := HSTEP.out none hcn.symm
                    have HST2 := Lib.hid hst2
                    clear hst2 HSTEP hcn hup
                    go_wp2_with fail
                    exact ⟨⟨k + 1, by omega, by go_num, Lib.hid (HM7.out.alloc _), Lib.hid (by rw [HST2.out]; exact HE7.out.alloc _), Lib.hid (HB7.out.alloc HB7.out.size _)⟩, by simp only [intOf]; omega⟩
                  | some y =>
                    rw [hup] at hlk
                    simp only [if_true, Option.map_some, Option.getD_some, Option.isSome_some] at hlk
                    by_cases hsv : y.a.s.service = x.a.s.service
                    · have hcn : callC size M x = none := by rw [callC, hup]; simp [hsv]
                      have hst2 := HSTEP.out none hcn.symm
                      have HST2 := Lib.hid hst2
                      have hsv' : (y.a.s.service.toList == x.a.s.service.toList) = true := by rw [strEq_of', decide_eq_true hsv]
                      have hsv'' : (y.a.s.service.toList != x.a.s.service.toList) = false := by rw [bne, hsv']; rfl
                      clear hst2 HSTEP hcn hup
                      go_wp2_with fail
                      exact ⟨⟨k + 1, by omega, by go_num, Lib.hid (HM7.out.alloc _), Lib.hid (by rw [HST2.out]; exact HE7.out.alloc _), Lib.hid (HB7.out.alloc HB7.out.size _)⟩, by simp only [intOf]; omega⟩
                    · have hcn : callC size M x = some ⟨(bktOf x.a.s.start size).1, y.a.s.service, x.a.s.service, 1⟩ := by rw [callC, hup]; simp [hsv]
                      have hst2 := HSTEP.out _ hcn.symm
                      have HST2 := Lib.hid hst2
                      have hsv' : (y.a.s.service.toList == x.a.s.service.toList) = false := by rw [strEq_of', decide_eq_false hsv]
                      have hsv'' : (y.a.s.service.toList != x.a.s.service.toList) = true := by rw [bne, hsv']; rfl
                      clear hst2 HSTEP hcn hup
                      go_wp2_with fail
                      refine (deBucket x.a.s.start size _ hxs.2 hxs.1 hs0 hs1).mono ?_
                      rintro en w8 ⟨rfl, hw8⟩
                      rw [hw8]
                      clear hw8
                      go_wp2_with fail
                      refine (deAdd ⟨(bktOf x.a.s.start size).1, y.a.s.service, x.a.s.service⟩ 1 _ (HE7.out.alloc _)).mono ?_
                      rintro en w9 ⟨rfl, hE9, hg9, hs9⟩
                      go_wp2_with fail
                      exact ⟨⟨k + 1, by omega, by go_num, Lib.hid ((HM7.out.alloc _).grown hg9 (fun e => by have := Option.some.inj e; omega)), Lib.hid (by rw [HST2.out]; exact hE9), Lib.hid ((HB7.out.alloc HB7.out.size _).trans (below_grownJ hg9 (by have := HB7.out.size; simp at this ⊢; omega) (fun j hj => by have := Option.some.inj hj; omega)))⟩, by simp only [intOf]; omega⟩
                · have hki' : decide ((k : Int) < (i : Int)) = false := by simp; omega
                  obtain rfl : k = i := by omega
                  have he := HE.out
                  rw [List.take_of_length_le (by rw [HN.out]; omega), ← HMM.out] at he
                  have hfl : (l.filterMap (callC size (atTo l))).length ≤ 200 := Nat.le_trans (List.length_filterMap_le _ _) (by rw [HN.out]; omega)
                  have hll : (mgAll (l.filterMap (callC size (atTo l))) []).length ≤ 200 := by
                    have := mgAll_len (l.filterMap (callC size (atTo l))) []
                    simp at this
                    omega
                  have hfew := mgAll_few (xs := l.filterMap (callC size (atTo l))) (M := []) (c := 0) (fun e he => by
                    obtain ⟨z, _, hz⟩ := List.mem_filterMap.1 he
                    exact callC_one hz) (fun p hp => by cases hp) List.nodup_nil
                  have hli := deList wr he (by omega)
                  have HFEW := Lib.hid hfew
                  have HFL := Lib.hid hfl
                  clear hfew hfl hll he HE HM
                  go_wp2_with fail
                  refine hli.mono ?_
                  rintro en w8 (⟨⟨p, hp, hlt⟩, -, -⟩ | ⟨-, A8, c8, n8, out, hperm, hsort, hlen8, rfl, hown, hb8⟩)
                  · have h1 := HFEW.out p hp
                    have h2 := HFL.out
                    omega
                  · go_wp2_with fail
                    go_ret2
                    exact ⟨HB.out.trans (hb8.mono HB.out.size), .inr ⟨HNB.out, .inr ⟨HZ0.out, A8, c8, n8, out, hperm, hsort, hlen8, rfl, own_baseJ hown HB.out.size⟩⟩⟩
      · have hqn' : ((q : Int) != (i : Int)) = true := by simp; omega
        go_wp2_with fail
        go_ret2
        exact ⟨HB.out, .inl ⟨.inr (.inl (by rw [HMM.out, HQ.out, HN.out]; exact hqn)), rfl⟩⟩
end Go.Proofs.Ythaiplhjekkooaa
