/- Has, the reference. -/
import Derived.Test.YtccpjjpceokodaaFill
namespace Go.Proofs.Ytccpjjpceokodaa
open Go.RowKit

theorem all_of_take {p : Int → Bool} {l : List Int} {j : Nat} (h : (l.take j).all p = false) : l.all p = false := by
  rw [Bool.eq_false_iff] at h ⊢
  intro h1
  apply h
  rw [List.all_eq_true] at h1 ⊢
  exact fun x hx => h1 x (List.mem_of_mem_take hx)

set_option maxHeartbeats 1000000 in
theorem refHas {A A1 : Option Addr} {c c1 n n1 B B1 : Nat} {fs zs : List Int} (w : World) (hf : Rb w B A fs) (hfb : Byt fs) (hz : Rb w B1 A1 zs) (hzb : Byt zs) (hfl : fs.length ≤ 140737488355328) (hzl : zs.length ≤ maxLen) (hn : fs.length = n) (hn1 : zs.length = n1) (hB : B ≤ w.heap.size) :
    Calls Try.prog 21 #[.slice A n c, .slice A1 n1 c1] w fun e w' => e = .returned (.bool (hasOf fs zs)) ∧ Below w.heap.size w w' := by
  obtain ⟨r, hr⟩ : ∃ r, hasOf fs zs = r := ⟨_, rfl⟩
  rw [hr]
  have hs := hashOf_rng zs
  rw [hn] at hfl
  by_cases h2 : fs.length < 2 ∨ 1048577 < fs.length
  · rw [hasOf, if_pos h2] at hr
    subst hr
    rw [hn] at h2
    have h2' : (n : Int) < 2 ∨ (1048577 : Int) < n := by omega
    go_enter Try.func21, Try.ntmps21
    rcases h2 with h2 | h2
    · go_wp2
      go_ret
      exact ⟨rfl, Below.refl _ _⟩
    · have h3 : ¬ ((n : Int) < 2) := by omega
      go_wp2
      go_ret
      exact ⟨rfl, Below.refl _ _⟩
  · obtain ⟨h2a, h2b⟩ := not_or.1 h2
    obtain ⟨b, o, k, hk, rfl, hb, hc⟩ := hf.get (k := fs.length - 1) (by omega)
    have hkb := hfb.get hk
    rw [hasOf, if_neg h2, List.getD_eq_getElem?_getD, hk, hn] at hr
    simp only [Option.getD_some] at hr
    rw [hn] at hc h2a h2b
    have HR := Lib.hid hr
    clear hr h2
    have HN := Lib.hid hn
    clear hn
    have HK := Lib.hid hk
    clear hk
    have d1 : decide ((n : Int) < 2) = false := by simp; omega
    have d2 : decide ((1048577 : Int) < n) = false := by simp; omega
    obtain ⟨m, hm⟩ : ∃ m, n = m + 1 := ⟨n - 1, by omega⟩
    subst hm
    rw [show m + 1 - 1 = m from rfl] at hc
    go_enter Try.func21, Try.ntmps21
    go_wp2_with fail
    refine (refHash (A := A1) (c := c1) w hz hzb hzl hn1).mono ?_
    rintro e w1 ⟨rfl, rfl⟩
    obtain ⟨kn, rfl⟩ := Int.eq_ofNat_of_zero_le hkb.1
    obtain ⟨h, hh⟩ : ∃ h, hashOf zs = h := ⟨_, rfl⟩
    rw [hh] at hs HR ⊢
    have HS := Lib.hid hs.2
    have hs0 := hs.1
    clear hs
    by_cases hok : okp ((m : Int) * 8) kn = false
    · have hr := HR.out
      rw [if_pos (by simpa using hok)] at hr
      subst hr
      have HO := Lib.hid hok
      clear hok
      go_wp2_with fail
      refine (refProbes0 h ((m : Int) * 8) kn w1 HO.out).mono ?_
      rintro e w2 ⟨rfl, hb2⟩
      have hb2 := below_all hb2 w1.heap.size
      go_wp2
      go_ret
      exact ⟨rfl, hb2⟩
    · have hr := HR.out
      rw [if_neg (by simpa using hok)] at hr
      have HR := Lib.hid hr
      clear hr
      have hok' : okp ((m : Int) * 8) kn = true := by simpa using hok
      have hokk : 1 ≤ (m : Int) * 8 ∧ (m : Int) * 8 ≤ 8388608 ∧ 1 ≤ (kn : Int) ∧ (kn : Int) ≤ 30 := by simp [okp] at hok'; omega
      clear hok hok'
      go_wp2_with fail
      refine (refProbes1 h ((m : Int) * 8) kn w1 hs0 HS.out hokk.1 hokk.2.1 (by omega) (by omega)).mono ?_
      rintro e w2 ⟨A2, c2, rfl, happ, -⟩
      have hb2 := happ.below0
      have hps := happ.rd
      have hf2 := (Rd.below hf (hb2.mono hB))
      go_wp2
      go_loopw [8] (fun iv_ wr => ∃ (j : Nat), j ≤ kn ∧ iv_ = .int .i64 j ∧ (((prb h ((m : Int) * 8) kn).take j).all (isb fs)) = true ∧ ∃ nd, wr = w2.drewN nd) (fun i _ => kn - (intOf i).toNat)
      case atStart => exact ⟨0, by omega, rfl, rfl, 0, rfl⟩
      case round =>
        obtain ⟨j, hj, rfl, hall, nd, rfl⟩ := hrel
        have HA := Lib.hid hall
        clear hall
        by_cases hlt : j < kn
        · obtain ⟨x, hx⟩ : ∃ x, prb1 h ((m : Int) * 8) j = x := ⟨_, rfl⟩
          have hx0 : 0 ≤ x ∧ x < (m : Int) * 8 := by rw [← hx]; exact ⟨Int.emod_nonneg _ (by omega), Int.emod_lt_of_pos _ (by omega)⟩
          have hpx : (prb h ((m : Int) * 8) kn)[j]? = some x := by rw [prb, List.getElem?_map, List.getElem?_range hlt]; simp [hx]
          obtain ⟨b2, o2, rfl, hb2', hc2⟩ := Rd.get hps (iv_get hpx)
          obtain ⟨b3, o3, y, hy, he3, hb3, hc3⟩ := Rb.get (zs := fs) hf2 (k := (x / 8).toNat) (by have := HN.out; omega)
          injection he3 with he3
          injection he3 with he3 he4
          subst he3 he4
          have hyb := hfb.get hy
          obtain ⟨z, hz⟩ : ∃ z, y / 2 ^ (x % 8).toNat = z := ⟨_, rfl⟩
          have hz0 : 0 ≤ z := by rw [← hz]; exact Int.ediv_nonneg hyb.1 (Int.pow_nonneg (by decide))
          have hib : isb fs x = !(z % 2 == 0) := by rw [isb, List.getD_eq_getElem?_getD, hy, pw, ← hz]; rfl
          have hsn : (((prb h ((m : Int) * 8) kn).take (j + 1)).all (isb fs)) = !(z % 2 == 0) := by
            rw [take_snoc hpx, List.all_append, HA.out, ← hib]; simp
          have HP := Lib.hid hpx
          have HX := Lib.hid hx
          have HY := Lib.hid hy
          have HSN := Lib.hid hsn
          clear hpx hx hy hib hsn
          have hx8 : x / 8 < (m : Int) + 1 := by omega
          by_cases hzz : z % 2 = 0
          · go_wp2
            go_quiet (fail)
            go_wp2
            go_ret
            have hrf : r = false := by
              rw [← HR.out]
              exact all_of_take (l := prb h ((m : Int) * 8) kn) (j := j + 1) (by rw [HSN.out]; simp [hzz])
            exact ⟨by rw [hrf]; rfl, below_drewN (below_drewN hb2 _) _⟩
          · go_wp2
            go_quiet (fail)
            go_wp2
            go_roundw
            case rel => exact ⟨j + 1, by omega, by go_num, by rw [HSN.out]; simp [hzz], _, rfl⟩
            case measure => simp [intOf]; omega
        · have hjk : j = kn := by omega
          have hrt : r = true := by
            have h1 := HA.out
            rw [hjk, List.take_of_length_le (by rw [prb_len]; omega)] at h1
            rw [← HR.out]
            exact h1
          go_wp2
          go_ret
          exact ⟨by rw [hrt]; rfl, below_drewN hb2 _⟩
end Go.Proofs.Ytccpjjpceokodaa
