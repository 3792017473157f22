/- The statement BloomCalls: filters are made, and asked, as the document says. The walk. -/
import Derived.Test.YtccpjjpceokodaaCalls
import Derived.Test.YtccpjjpceokodaaOpenM
namespace Go.Proofs.Ytccpjjpceokodaa
open Go.RowKit

theorem eqb_self {α : Type} [DecidableEq α] (xs : List α) : decide (xs = xs) = true := by simp
theorem Rd.atS {w w' : World} {A : Option Addr} {xs : List Value} (h : Rd w w.heap.size A xs) (hb : Below w.heap.size w w') : Rd w' w'.heap.size A xs := h.belowS hb

set_option maxHeartbeats 4000000 in
theorem bloomCalls_walk (A : Option Addr) (n cp : Nat) (keys : List (List Int)) (c : Int) (A2 : Option Addr) (n2 cp2 : Nat) (f : List Int) (A3 : Option Addr) (n3 cp3 : Nat) (key : List Int) (h m k : Int) (w : World)
    (hk : InM w A n cp keys) (hc : (Lit.int .i64 c).wf = true) (hf : InB w A2 n2 cp2 f) (hy : InB w A3 n3 cp3 key) (hh : (Lit.int .u64 h).wf = true) (hm : (Lit.int .i64 m).wf = true) (hkk : (Lit.int .i64 k).wf = true) :
    Calls Try.prog 5 #[.slice A n cp, .int .i64 c, .slice A2 n2 cp2, .slice A3 n3 cp3, .int .u64 h, .int .i64 m, .int .i64 k] w fun e w' => e = .returned (.bool true) ∧ Below w.heap.size w w' := by
  have hhr : 0 ≤ h ∧ h < 18446744073709551616 := by
    simp [Lit.wf, IntKind.min, IntKind.max, IntKind.signed, IntKind.bits] at hh
    omega
  have HN := Lib.hid hk.len
  have HN2 := Lib.hid hf.len
  have HN3 := Lib.hid hy.len
  have HC := Lib.hid hc
  have HM := Lib.hid hm
  have H0 := Lib.hid hhr.1
  have H1 := Lib.hid hhr.2
  clear hc hh hm hkk hhr
  go_enter Try.func5, Try.ntmps5
  go_wp2_with fail
  refine (lives_true w).mono ?_
  rintro e w1 ⟨rfl, hb1⟩
  have hk1 := hk.rd.belowS hb1
  have hf1 := hf.rd.belowS hb1
  have hy1 := hy.rd.belowS hb1
  by_cases h1 : 200 < n
  · have d1 : (200 : Int) < n := by omega
    go_wp2
    go_ret
    exact ⟨rfl, hb1⟩
  have d1 : decide ((200 : Int) < n) = false := by simp; omega
  have h1' : n ≤ 200 := by omega
  clear h1
  go_wp2_with fail
  refine (lawWeigh (c := cp) w1 hk1 HN.out h1').mono ?_
  rintro e w1 ⟨⟨v, rfl⟩, rfl⟩
  by_cases h2 : 20000 < v
  · go_wp2
    go_ret
    exact ⟨rfl, hb1⟩
  have d2 : decide (20000 < v) = false := by simp; omega
  clear h2
  by_cases h3 : 20000 < n2
  · have d3 : (20000 : Int) < n2 := by omega
    go_wp2
    go_ret
    exact ⟨rfl, hb1⟩
  have d3 : decide ((20000 : Int) < n2) = false := by simp; omega
  have h3' : n2 ≤ 20000 := by omega
  clear h3
  by_cases h4 : 20000 < n3
  · have d4 : (20000 : Int) < n3 := by omega
    go_wp2
    go_ret
    exact ⟨rfl, hb1⟩
  have d4 : decide ((20000 : Int) < n3) = false := by simp; omega
  have h4' : n3 ≤ 20000 := by omega
  clear h4
  have HKB := Lib.hid hk.byt
  have HFB := Lib.hid hf.byt
  have HYB := Lib.hid hy.byt
  clear hk hf hy
  obtain ⟨zs, hzs⟩ : ∃ zs, (makeOf n c keys).1 = zs := ⟨_, rfl⟩
  obtain ⟨ze, hze⟩ : ∃ ze, (makeOf n c keys).2 = ze := ⟨_, rfl⟩
  have HZL := Lib.hid (makeOf_len n c keys)
  have HZB := Lib.hid (makeOf_byt n c keys)
  have HMK := fun W (h : RbM W W.heap.size A keys) => Lib.hid (bloomMake (c := cp) W h HKB.out HN.out (Nat.le_refl _) HC.out (by omega))
  have HRK := fun W (h : RbM W W.heap.size A keys) => Lib.hid (refMake (c := cp) W h HKB.out HN.out (Nat.le_refl _) HC.out (by omega))
  rw [hzs] at HZL HZB
  rw [hzs, hze] at HMK HRK
  clear hzs hze
  obtain ⟨ps, hps⟩ : ∃ ps, (probesOf h m k).1 = ps := ⟨_, rfl⟩
  obtain ⟨pe, hpe⟩ : ∃ pe, (probesOf h m k).2 = pe := ⟨_, rfl⟩
  have HPL := Lib.hid (probesOf_len h m k)
  have HBP := fun W => Lib.hid (bloomProbes h m k W H0.out H1.out)
  have HRP := fun W => Lib.hid (refProbes h m k W H0.out H1.out)
  rw [hps] at HPL
  rw [hps, hpe] at HBP HRP
  clear hps hpe
  go_wp2_with fail
  refine (HMK w1 hk1).out.mono ?_
  rintro e w2 ⟨B1, c1, rfl, hr2, hb2⟩
  have hB2 := hb1.trans (hb2.mono hb1.size)
  replace hk1 := hk1.belowS hb2
  replace hf1 := hf1.belowS hb2
  replace hy1 := hy1.belowS hb2
  clear hb1 hb2 HMK
  rw [bv_length]
  go_wp2_with fail
  refine (HRK w2 hk1).out.mono ?_
  rintro e w3 ⟨B2, c2, rfl, hr3, hb3⟩
  have hB3 := hB2.trans (hb3.mono hB2.size)
  replace hf1 := hf1.belowS hb3
  replace hy1 := hy1.belowS hb3
  replace hr2 := hr2.belowS hb3
  clear hB2 hb3 hk1 HRK
  rw [bv_length]
  go_wp2_with fail
  refine (bloomBits m c w3 HM.out HC.out).mono ?_
  rintro e w3 ⟨rfl, rfl⟩
  go_wp2_with fail
  refine (refBits m c w3 HM.out HC.out).mono ?_
  rintro e w3 ⟨rfl, rfl⟩
  generalize (bitsOf m c).1 = x1
  generalize (bitsOf m c).2.1 = x2
  generalize (bitsOf m c).2.2 = x3
  go_wp2_with fail
  refine (HBP w3).out.mono ?_
  rintro e w4 ⟨B3, c3, rfl, hp4, hb4⟩
  have hB4 := hB3.trans (hb4.mono hB3.size)
  replace hf1 := hf1.belowS hb4
  replace hy1 := hy1.belowS hb4
  replace hr2 := hr2.belowS hb4
  replace hr3 := hr3.belowS hb4
  clear hB3 hb4 HBP
  rw [iv_len]
  go_wp2_with fail
  refine (HRP w4).out.mono ?_
  rintro e w5 ⟨B4, c4, rfl, hp5, hb5⟩
  have hB5 := hB4.trans (hb5.mono hB4.size)
  replace hf1 := hf1.belowS hb5
  replace hy1 := hy1.belowS hb5
  replace hr2 := hr2.belowS hb5
  replace hr3 := hr3.belowS hb5
  replace hp4 := hp4.belowS hb5
  clear hB4 hb5 HRP
  rw [iv_len]
  have hzl := HZL.out
  have hpl := HPL.out
  go_wp2_with fail
  refine (kitBytes (c := c1) (c' := c2) w5 hr2 hr3 (by simp only [maxLen]; omega) (by simp only [maxLen]; omega) rfl rfl).mono ?_
  rintro e w6 ⟨rfl, nd, rfl⟩
  rw [show eqb zs zs = true from eqb_self zs]
  replace hB5 := below_drewN hB5 nd
  replace hf1 := hf1.drewN nd
  replace hy1 := hy1.drewN nd
  replace hr3 := hr3.drewN nd
  replace hp4 := hp4.drewN nd
  replace hp5 := hp5.drewN nd
  clear hr2
  go_wp2_with fail
  refine (kitInts (c := c3) (c' := c4) _ hp4 hp5 (by simp only [maxLen]; omega) (by simp only [maxLen]; omega) rfl rfl).mono ?_
  rintro e w7 ⟨rfl, nd2, rfl⟩
  rw [show eqb ps ps = true from eqb_self ps]
  replace hB5 := below_drewN hB5 nd2
  replace hf1 := hf1.drewN nd2
  replace hy1 := hy1.drewN nd2
  replace hr3 := hr3.drewN nd2
  clear hp4 hp5
  rw [World.drewN_drewN] at *
  obtain ⟨W, hW⟩ : ∃ W, w5.drewN (nd + nd2) = W := ⟨_, rfl⟩
  have hsz : w5.heap.size = W.heap.size := by rw [← hW]; rfl
  rw [hW] at hB5 hf1 hy1 hr3 ⊢
  rw [hsz] at hf1 hy1 hr3
  clear hW hsz
  have hfl : f.length ≤ 20000 := by rw [HN2.out]; omega
  have hyl : key.length ≤ 20000 := by rw [HN3.out]; omega
  have HFL := Lib.hid hfl
  have HYL := Lib.hid hyl
  clear hfl hyl
  -- the hashes
  go_wp2_with fail
  refine (kitOwn (c := cp3) W hy1 (Nat.le_refl _) (by have := HYL.out; omega) HN3.out).mono ?_
  rintro e w8 ⟨D1, e1, rfl, happ, -⟩
  have hb8 := happ.below0
  have hD1 := happ.rd
  replace hB5 := hB5.trans (hb8.mono hB5.size)
  replace hf1 := hf1.belowS hb8
  replace hy1 := hy1.belowS hb8
  replace hr3 := hr3.belowS hb8
  clear happ hb8
  go_wp2_with fail
  refine (bloomHash (c := e1) w8 hD1 HYB.out (by have := HYL.out; simp only [maxLen]; omega) HN3.out).mono ?_
  rintro e w8 ⟨rfl, rfl⟩
  obtain ⟨hv, hhv⟩ : ∃ hv, hashOf key = hv := ⟨_, rfl⟩
  go_wp2_with fail
  refine (refHash (c := cp3) w8 hy1 HYB.out (by have := HYL.out; simp only [maxLen]; omega) HN3.out).mono ?_
  rintro e w8 ⟨rfl, rfl⟩
  rw [hhv]
  clear hhv hD1
  -- the other filter
  go_wp2_with fail
  refine (kitOwn (c := cp2) w8 hf1 (Nat.le_refl _) (by have := HFL.out; omega) HN2.out).mono ?_
  rintro e w9 ⟨D2, e2, rfl, happ, -⟩
  have hb9 := happ.below0
  have hD2 := happ.rd
  replace hB5 := hB5.trans (hb9.mono hB5.size)
  replace hf1 := hf1.belowS hb9
  replace hy1 := hy1.belowS hb9
  replace hr3 := hr3.belowS hb9
  clear happ hb9
  go_wp2_with fail
  refine (bloomHas (c := e2) (c1 := cp3) w9 hD2 HFB.out hy1 HYB.out (by have := HFL.out; omega) (by have := HYL.out; simp only [maxLen]; omega) HN2.out HN3.out (Nat.le_refl _) (Nat.le_refl _)).mono ?_
  rintro e w10 ⟨rfl, hb10⟩
  obtain ⟨hb, hhb⟩ : ∃ hb, hasOf f key = hb := ⟨_, rfl⟩
  rw [hhb]
  replace hB5 := hB5.trans (hb10.mono hB5.size)
  replace hf1 := hf1.belowS hb10
  replace hy1 := hy1.belowS hb10
  replace hr3 := hr3.belowS hb10
  clear hb10 hD2
  go_wp2_with fail
  refine (refHas (c := cp2) (c1 := cp3) w10 hf1 HFB.out hy1 HYB.out (by have := HFL.out; omega) (by have := HYL.out; simp only [maxLen]; omega) HN2.out HN3.out (Nat.le_refl _)).mono ?_
  rintro e w11 ⟨rfl, hb11⟩
  rw [hhb]
  replace hB5 := hB5.trans (hb11.mono hB5.size)
  replace hy1 := hy1.belowS hb11
  replace hr3 := hr3.belowS hb11
  clear hb11 hhb hf1
  -- the filter made
  go_wp2_with fail
  refine (kitOwn (c := c2) w11 hr3 (Nat.le_refl _) (by omega) rfl).mono ?_
  rintro e w12 ⟨D3, e3, rfl, happ, -⟩
  have hb12 := happ.below0
  have hD3 := happ.rd
  replace hB5 := hB5.trans (hb12.mono hB5.size)
  replace hy1 := hy1.belowS hb12
  replace hr3 := hr3.belowS hb12
  clear happ hb12
  go_wp2_with fail
  refine (bloomHas (c := e3) (c1 := cp3) w12 hD3 HZB.out hy1 HYB.out (by omega) (by have := HYL.out; simp only [maxLen]; omega) rfl HN3.out (Nat.le_refl _) (Nat.le_refl _)).mono ?_
  rintro e w13 ⟨rfl, hb13⟩
  obtain ⟨hc, hhc⟩ : ∃ hc, hasOf zs key = hc := ⟨_, rfl⟩
  rw [hhc]
  replace hB5 := hB5.trans (hb13.mono hB5.size)
  replace hy1 := hy1.belowS hb13
  replace hr3 := hr3.belowS hb13
  clear hb13 hD3
  go_wp2_with fail
  refine (refHas (c := c2) (c1 := cp3) w13 hr3 HZB.out hy1 HYB.out (by omega) (by have := HYL.out; simp only [maxLen]; omega) rfl HN3.out (Nat.le_refl _)).mono ?_
  rintro e w14 ⟨rfl, hb14⟩
  rw [hhc]
  replace hB5 := hB5.trans (hb14.mono hB5.size)
  clear hb14 hhc hy1 hr3
  go_wp2
  go_ret
  exact ⟨rfl, hB5⟩
end Go.Proofs.Ytccpjjpceokodaa
