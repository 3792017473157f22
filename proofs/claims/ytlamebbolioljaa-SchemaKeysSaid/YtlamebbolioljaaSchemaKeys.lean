/- The statement SchemaKeys: any key is checked, packed, and taken apart as the document says. The walk. -/
import Derived.Test.YtlamebbolioljaaScM
import Derived.Test.YtlamebbolioljaaScL
import Derived.Test.YtlamebbolioljaaKyO
namespace Go.Proofs.Ytlamebbolioljaa
open Go.RowKit
theorem loadKy_shut6 (a : Addr) : loadVar 26 a = loadK 26 a := rfl
attribute [local go_sem ↓] loadKy_shut6

theorem rUnpack {A0 : Option Addr} {c0 B n : Nat} {zs : List Int} (w : World) (ha : Rb w B A0 zs) (hB : B ≤ w.heap.size) (hz : Byt zs) (hl : n ≤ 1000000) (hn : zs.length = n) (hc : n ≤ c0) :
    Calls Try.prog 13 #[.slice A0 n c0] w (UnPost w (unpOf zs)) := by
  cases zs with
  | nil => subst hn; exact rUnpack0 w
  | cons c rest => exact rUnpack1 w ha hB hz hl hn hc
/-- What the law was handed. -/
structure KyS (w0 W : World) (g : Nat) (k : Ky) (A : Option Addr) (zs : List Int) : Prop where
  bel : Below w0.heap.size w0 W
  key : Bk W g 26 (kyC k)
  byt : Rb W W.heap.size A zs
theorem KyS.below {w0 W W' : World} {g : Nat} {k : Ky} {A : Option Addr} {zs : List Int} (h : KyS w0 W g k A zs) (hb : Below W.heap.size W W') : KyS w0 W' g k A zs :=
  ⟨h.bel.trans (hb.mono h.bel.size), h.key.bS hb, h.byt.belowS hb⟩
theorem conv_at {W w' : World} {A : Option Addr} {c n : Nat} {zs : List Int} (h : Rb W W.heap.size A zs) (hn : zs.length = n) (hb : Below W.heap.size W w') : (convert 27 9 (.slice A n c)).run Try.prog w' = .ok (.string (strOfNums zs)) w' := by
  subst hn
  exact (show Rb w' W.heap.size A zs from h.below hb).str (P := Try.prog) Try.underlying27 Try.underlying5 Try.underlying9 c
set_option maxRecDepth 100000 in
set_option maxHeartbeats 8000000 in
theorem schemaKeys_walk (k : Ky) (A : Option Addr) (n c : Nat) (zs : List Int) (x : Int) (w : World) (hk : InKy k) (hb : InB w A n c zs) (hx : (Lit.int .i64 x).wf = true) :
    Calls Try.prog 3 #[kyV k, .slice A n c, .int .i64 x] w fun e w' => e = .returned (.bool true) ∧ Below w.heap.size w w' := by
  have hxr : -9223372036854775808 ≤ x ∧ x ≤ 9223372036854775807 := by
    simp [Lit.wf, IntKind.min, IntKind.max, IntKind.signed, IntKind.bits] at hx
    omega
  have bk := Bk.new w 26 (kyC k)
  have hb0 : Below w.heap.size w (w.alloc (.cells (kyC k) 26)) := (Below.refl _ w).alloc (Nat.le_refl _) _
  obtain ⟨w1, hw1⟩ : ∃ w1, w.alloc (.cells (kyC k) 26) = w1 := ⟨_, rfl⟩
  rw [hw1] at bk hb0
  obtain ⟨g, hg⟩ : ∃ g, w.heap.size = g := ⟨_, rfl⟩
  have ks : KyS w w1 g k A zs := ⟨hb0, by rw [← hg]; exact bk, hb.rd.belowS hb0⟩
  have HW := Lib.hid hw1
  have HG := Lib.hid hg
  obtain ⟨r, hr⟩ : ∃ r, packOf k = r := ⟨_, rfl⟩
  obtain ⟨f, hf⟩ : ∃ f, firstOf k x = f := ⟨_, rfl⟩
  obtain ⟨u, hu⟩ : ∃ u, unpOf zs = u := ⟨_, rfl⟩
  obtain ⟨q, hq⟩ : ∃ q, kyChk k = q := ⟨_, rfl⟩
  obtain ⟨sm, hsm⟩ : ∃ sm, smallK k = sm := ⟨_, rfl⟩
  have CS : Hid (∀ W, Calls Try.prog 9 #[kyV k] W fun e w' => e = .returned (.bool sm) ∧ Below W.heap.size W w') := Lib.hid fun W => by rw [← hsm]; exact lawSmallK k W
  have CP : Hid (∀ W, Calls Try.prog 10 #[kyV k] W (KeyMade W r)) := Lib.hid fun W => by rw [← hr]; exact scPackK k W hk.u64
  have RP : Hid (∀ W, Calls Try.prog 11 #[kyV k] W (KeyMade W r)) := Lib.hid fun W => by rw [← hr]; exact rPackK k W hk.u64
  have CF : Hid (∀ W, Calls Try.prog 14 #[kyV k, .int .i64 x] W (KeyMade W f)) := Lib.hid fun W => by rw [← hf]; exact scFirst k x W hk.u64 hxr.1 hxr.2
  have RF : Hid (∀ W, Calls Try.prog 15 #[kyV k, .int .i64 x] W (KeyMade W f)) := Lib.hid fun W => by rw [← hf]; exact rFirst k x W hk.u64 hxr.1 hxr.2
  have CC : Hid (∀ W, Calls Try.prog 16 #[kyV k] W fun e w' => e = .returned (.int .i64 q) ∧ Below W.heap.size W w') := Lib.hid fun W => by rw [← hq]; exact scCheck k W
  have RC : Hid (∀ W, Calls Try.prog 17 #[kyV k] W fun e w' => e = .returned (.int .i64 q) ∧ Below W.heap.size W w') := Lib.hid fun W => by rw [← hq]; exact rCheck k W
  have hlen := hb.len
  have hcap := hb.cap
  have hbyt := hb.byt
  have CU : Hid (n ≤ 2000 → ∀ W, Rb W W.heap.size A zs → Calls Try.prog 12 #[.slice A n c] W (UnPost W u)) := Lib.hid fun hn W h => by rw [← hu]; exact scUnpack W h (Nat.le_refl _) hbyt (by omega) hlen hcap
  have RU : Hid (n ≤ 2000 → ∀ W, Rb W W.heap.size A zs → Calls Try.prog 13 #[.slice A n c] W (UnPost W u)) := Lib.hid fun hn W h => by rw [← hu]; exact rUnpack W h (Nat.le_refl _) hbyt (by omega) hlen hcap
  have HKS := Lib.hid ks
  have la := loadK_ky ks.key
  have hmx : n ≤ 9223372036854775807 := by have h1 := hb.cap; have h2 := hb.max; simp only [maxLen] at h2; omega
  clear hw1 hg hr hf hu hq hsm hk hb hx hxr bk hb0 ks hlen hcap hbyt
  cases sm with
  | false =>
    go_enter Try.func3, Try.ntmps3
    go_upto_region 1 with fail
    rw [HW.out, HG.out]
    go_wp2_with (first
      | (go_at_call 8; refine (scLives _).mono ?_; rintro e w2 ⟨rfl, hb2⟩; have ks2 := HKS.out.below hb2; have la2 := loadK_ky ks2.key)
      | (go_at_call 9; refine (CS.out _).mono ?_; rintro e w3 ⟨rfl, hb3⟩))
    go_ret
    exact ⟨rfl, (ks2.below hb3).bel⟩
  | true =>
    by_cases hn : n ≤ 2000
    case neg =>
      have d1 : decide ((2000 : Int) < (n : Int)) = true := by simp; omega
      go_enter Try.func3, Try.ntmps3
      go_upto_region 1 with fail
      rw [HW.out, HG.out]
      go_wp2_with (first
        | (go_at_call 8; refine (scLives _).mono ?_; rintro e w2 ⟨rfl, hb2⟩; have ks2 := HKS.out.below hb2; have la2 := loadK_ky ks2.key)
        | (go_at_call 9; refine (CS.out _).mono ?_; rintro e w3 ⟨rfl, hb3⟩))
      go_ret
      exact ⟨rfl, (ks2.below hb3).bel⟩
    case pos =>
      have d1 : decide ((2000 : Int) < (n : Int)) = false := by simp; omega
      have CU2 := Lib.hid (CU.out hn)
      have RU2 := Lib.hid (RU.out hn)
      clear CU RU
      go_enter Try.func3, Try.ntmps3
      go_upto_region 1 with fail
      rw [HW.out, HG.out]
      go_upto_region 5 with (first
        | (go_at_call 8; refine (scLives _).mono ?_; rintro e w2 ⟨rfl, hb2⟩; have ks2 := HKS.out.below hb2; have la2 := loadK_ky ks2.key)
        | (go_at_call 9; refine (CS.out _).mono ?_; rintro e w3 ⟨rfl, hb3⟩))
      have ks3 := ks2.below hb3
      have la3 := loadK_ky ks3.key
      clear ks2 la la2 hb2 hb3 HKS
      go_upto_region 7 with (first
        | (go_at_call 10; refine (CP.out _).mono ?_; rintro e w4 ⟨A4, c4, rfl, hr4, hb4, -, -, -⟩; have ks4 := ks3.below hb4; have la4 := loadK_ky ks4.key)
        | (go_at_call 11; refine (RP.out _).mono ?_; rintro e w5 ⟨A5, c5, rfl, hr5, hb5, -, -, -⟩; have ks5 := ks4.below hb5; have la5 := loadK_ky ks5.key))
      have r4 := hr4.belowS hb5
      have r5 := hr5
      clear ks3 ks4 la3 la4 hb4 hb5 hr4 hr5
      go_upto_region 8 with (go_at_call 12; refine (CU2.out _ ks5.byt).mono ?_; rintro e w6 ⟨rfl, hb6⟩)
      have hbb := hb6.alloc hb6.size (.cells (kyC u.1) 26)
      have ks6 := ks5.below hbb
      have r46 := r4.belowS hbb
      have r56 := r5.belowS hbb
      have bu6 := Bk.new w6 26 (kyC u.1)
      obtain ⟨b6, hb6e⟩ : ∃ b6, w6.heap.size = b6 := ⟨_, rfl⟩
      obtain ⟨w7, hw7⟩ : ∃ w7, w6.alloc (.cells (kyC u.1) 26) = w7 := ⟨_, rfl⟩
      rw [hw7] at ks6 r46 r56 bu6 ⊢
      rw [hb6e] at bu6 ⊢
      clear hw7 hb6e hbb hb6 ks5 la5 r4 r5
      go_upto_region 9 with (go_at_call 13; refine (RU2.out _ ks6.byt).mono ?_; rintro e w8 ⟨rfl, hb8⟩)
      have hbb := hb8.alloc hb8.size (.cells (kyC u.1) 26)
      have ks8 := ks6.below hbb
      have r48 := r46.belowS hbb
      have r58 := r56.belowS hbb
      have bu8 := bu6.bS hbb
      have bv8 := Bk.new w8 26 (kyC u.1)
      obtain ⟨b8, hb8e⟩ : ∃ b8, w8.heap.size = b8 := ⟨_, rfl⟩
      obtain ⟨w9, hw9⟩ : ∃ w9, w8.alloc (.cells (kyC u.1) 26) = w9 := ⟨_, rfl⟩
      rw [hw9] at ks8 r48 r58 bu8 bv8 ⊢
      rw [hb8e] at bv8 ⊢
      clear hw9 hb8e hbb hb8 ks6 r46 r56 bu6
      have la9 := loadK_ky ks8.key
      go_upto_region 11 with (first
        | (go_at_call 14; refine (CF.out _).mono ?_; rintro e wa ⟨Aa, ca, rfl, hra, hba, -, -, -⟩; have ksa := ks8.below hba; have laa := loadK_ky ksa.key)
        | (go_at_call 15; refine (RF.out _).mono ?_; rintro e wb ⟨Ab, cb, rfl, hrb, hbb, -, -, -⟩))
      have ksb := ksa.below hbb
      have rab := hra.belowS hbb
      have r4b := (r48.belowS hba).belowS hbb
      have r5b := (r58.belowS hba).belowS hbb
      have bub := (bu8.bS hba).bS hbb
      have bvb := (bv8.bS hba).bS hbb
      clear ks8 ksa la9 laa r48 r58 hra hba hbb bu8 bv8
      have HLA : Hid (∀ p : BelowBy wb, (loadK 26 ⟨g, 0, none⟩).run Try.prog p.w = .ok (kyV k) p.w) := Lib.hid fun p => loadK_ky (ksb.key.bS p.h)
      have la := HLA.out
      have lb : ∀ p : BelowBy wb, (loadK 26 ⟨b6, 0, none⟩).run Try.prog p.w = .ok (kyV u.1) p.w := fun p => loadK_ky (bub.bS p.h)
      have lc : ∀ p : BelowBy wb, (loadK 26 ⟨b8, 0, none⟩).run Try.prog p.w = .ok (kyV u.1) p.w := fun p => loadK_ky (bvb.bS p.h)
      have e1 : ∀ p : BelowBy wb, (convert 27 9 (.slice A4 r.1.length c4)).run Try.prog p.w = .ok (.string (strOfNums r.1)) p.w := fun p => conv_at r4b rfl p.h
      have e2 : ∀ p : BelowBy wb, (convert 27 9 (.slice A5 r.1.length c5)).run Try.prog p.w = .ok (.string (strOfNums r.1)) p.w := fun p => conv_at r5b rfl p.h
      have e3 : ∀ p : BelowBy wb, (convert 27 9 (.slice Aa f.1.length ca)).run Try.prog p.w = .ok (.string (strOfNums f.1)) p.w := fun p => conv_at rab rfl p.h
      have e4 : ∀ p : BelowBy wb, (convert 27 9 (.slice Ab f.1.length cb)).run Try.prog p.w = .ok (.string (strOfNums f.1)) p.w := fun p => conv_at hrb rfl p.h
      have e5 := eqlKy u.1
      have hcc : ∀ p : BelowBy wb, Calls Try.prog 16 #[kyV k] p.w fun e w' => e = .returned (.int .i64 q) ∧ ∃ p' : BelowBy wb, w' = p'.w := fun p => calls_belowBy p (CC.out p.w)
      have hrc : ∀ p : BelowBy wb, Calls Try.prog 17 #[kyV k] p.w fun e w' => e = .returned (.int .i64 q) ∧ ∃ p' : BelowBy wb, w' = p'.w := fun p => calls_belowBy p (RC.out p.w)
      have HCC := Lib.hid hcc
      have HRC := Lib.hid hrc
      have HBE := Lib.hid ksb.bel
      clear hcc hrc ksb bub bvb r4b r5b rab hrb
      refine wp_region_quiet_below (by kernel_rfl) (by kernel_rfl) ?_
      repeat (first
        | go_big_quiet_step ((first | (go_at_call 16; with_reducible exact HCC.out _) | (go_at_call 17; with_reducible exact HRC.out _)))
        | quiet_step ((first | (go_at_call 16; with_reducible exact HCC.out _) | (go_at_call 17; with_reducible exact HRC.out _))))
      refine wpQuiet_nil ?_
      rintro _ ⟨pq, rfl⟩
      go_wp2
      go_ret
      exact ⟨rfl, HBE.out.trans (pq.h.mono HBE.out.size)⟩
end Go.Proofs.Ytlamebbolioljaa
