/- The examples that each statement of layer 1 asks first: 'lives' answers true. -/
import Derived.Test.YtoflefonhegogaaRdr2
import Derived.Test.YtoflefonhegogaaWire4
namespace Go.Proofs.Ytoflefonhegogaa
open Go.RowKit

theorem Rdr.alloc {w : World} {g c p e : Nat} {A : Option Addr} {zs : List Int} (h : Rdr w g A c zs p e) (o : Obj) : Rdr (w.alloc o) g A c zs p e :=
  h.below ((Below.refl _ _).alloc (Nat.le_refl _) o)
theorem Rdr.app {w w' : World} {g c p e n : Nat} {A : Option Addr} {zs : List Int} {v' : Value} {ty : TypeId} {xs : List Value} (h : Rdr w g A c zs p e) (k : App w.heap.size ty 1 w (.slice none 0 0) w' v' n xs) : Rdr w' g A c zs p e := h.below k.below0
theorem bvlit (w : World) (t : TypeId) (zs : List Int) : Rb (w.alloc (.cells (bv zs).toArray t)) (w.heap.size + 1) (some ⟨w.heap.size, 0, none⟩) zs := by
  simpa using Rd.lit w (bv zs).toArray t
theorem num128 : numEnc 128 = [128, 1] := by rw [numEnc_ge (by omega), numEnc_lt (by omega)]; rfl

theorem aft1 : aftOf [1, 255] = [2] := by decide
theorem txt1 : txtEnc (nums ⟨#[97, 0, 98]⟩) = [97, 0, 255, 98, 0, 1] := by decide
theorem ord1 : ordEnc 258 = [0, 0, 0, 0, 0, 0, 1, 2] := by decide
theorem rd1 : rdNum [130, 1, 7] 0 0 = (130, 2, 0) := by decide
theorem rd2 : rdNum [128, 0] 0 0 = (0, 0, 4) := by decide
theorem below_set {B : Nat} {w w' : World} {g : Nat} (h : w.grownBy w' (some g)) (hB : B ≤ w.heap.size) (hg : B ≤ g) : Below B w w' := grown_below h hB (fun k hk => by injection hk with hk; omega)

set_option maxHeartbeats 4000000 in
theorem lives_true (w : World) : Calls Try.prog 9 #[] w fun e w' => e = .returned (.bool true) ∧ Below w.heap.size w w' := by
  have HB0 := Below.refl w.heap.size w
  go_enter Try.func9, Try.ntmps9
  go_wp2_with fail
  refine (rdrNew (zs := [130, 1, 7]) _ (Rd.lit _ _ _) (by simp) (Byt.of rfl) (by simp) (by simp) rfl).mono ?_
  rintro e w1 ⟨g1, A1, c1, rfl, R1, hb, hg1, hA1⟩
  have HB1 := (HB0.alloc (Nat.le_refl _) _).trans (hb.mono (by simp))
  simp at hg1 hA1
  clear hb HB0
  go_wp2_with fail
  refine (rdrNew (zs := [128, 0]) _ (Rd.lit _ _ _) (by simp) (Byt.of rfl) (by simp) (by simp) rfl).mono ?_
  rintro e w2 ⟨g2, A2, c2, rfl, R2, hb, hg2, hA2⟩
  have hs1 := R1.blk.lt
  have hsA : ∀ a, A1 = some a → a.block < w1.heap.size := fun a ha => by
    subst ha
    obtain ⟨b, o, e, hb, _⟩ := R1.rd (by simp [bv])
    injection e with e
    subst e
    exact hb
  have hs2 := HB1.size
  have HB2 := (HB1.alloc HB1.size _).trans (hb.mono (by simp; omega))
  replace R1 := (R1.alloc _).below hb
  simp at hg2 hA2
  have hw2 := R2.blk.lt
  have hw1 : g1 < w2.heap.size := by omega
  have h12 : g1 ≠ g2 := by omega
  have hA12 : ∀ a, A1 = some a → g2 ≠ a.block := fun a ha => by have := hsA a ha; omega
  have hg2' : w.heap.size ≤ g2 := by omega
  have hA21 : ∀ a, A2 = some a → a.block ≠ g1 := fun a ha => by have := hA2 a ha; omega
  clear hb HB1 hs1 hsA hA2
  have hafter := fun W B A c h1 h2 (h3 : 2 ≤ c) => wireAfter1 (A := A) (c := c) (B := B) (p := [1, 255]) W h1 h2 (by simp) (Byt.of rfl) (by decide) rfl h3
  rw [aft1] at hafter
  have HAFT := Lib.hid hafter
  clear hafter
  go_wp2_with fail
  refine (HAFT.out _ _ _ _ (Rd.lit _ _ _) (by simp) (by omega)).mono ?_
  rintro e w3 ⟨A3, c3, rfl, happ3, hne3⟩
  have hb := happ3.below0
  have HB3 := (HB2.alloc HB2.size _).trans (hb.mono (by simp; have := HB2.size; omega))
  replace R1 := (R1.alloc _).below hb
  replace R2 := (R2.alloc _).below hb
  have RA := Rd.of_own happ3.own
  have hAA : ∀ a, A3 = some a → w2.heap.size < a.block := fun a ha => by
    subst ha
    have := (happ3.own.lt a.block rfl).1
    simp at this
    omega
  clear hb HB2 happ3
  go_wp2_with fail
  refine (wireAfter0 (p := [255]) _ (Rd.lit _ _ _) (by simp [maxLen]) (by decide) rfl).mono ?_
  rintro e w4 ⟨rfl, hw⟩
  subst hw
  have HB4 := HB3.alloc HB3.size (.cells #[.int .u8 255] 5)
  replace R1 := R1.alloc (.cells #[.int .u8 255] 5)
  replace R2 := R2.alloc (.cells #[.int .u8 255] 5)
  replace RA := RA.allocS (.cells #[.int .u8 255] 5)
  go_wp2_with fail
  refine (wireNumber (x := 128) (xs := []) _ (World.ownsRow_nil _ _ _ _) (Nat.le_refl _) (by omega) (by omega)).mono ?_
  rintro e w5 ⟨A5, c5, rfl, happ, hne5⟩
  simp only [num128, List.nil_append] at happ
  have hb := happ.below0
  have HB5 := HB4.trans (hb.mono HB4.size)
  replace R1 := R1.below hb
  replace R2 := R2.below hb
  replace RA := RA.belowS hb
  have RN := Rd.of_own happ.own
  clear hb HB4 happ
  simp only [num128]
  go_wp2_with fail
  have RN' := RN.alloc (Nat.le_refl _) (.cells #[.int .u8 128, .int .u8 1] 5)
  refine (kitBytes (xs := [128, 1]) (ys := [128, 1]) _ RN' (Rd.lit _ _ _) (by simp [maxLen]) (by simp [maxLen]) rfl rfl).mono ?_
  rintro e w6 ⟨rfl, n6, hw6⟩
  subst hw6
  rw [show eqb [128, 1] [128, 1] = true from by decide]
  have HB6 := below_drewN (HB5.alloc HB5.size (.cells #[.int .u8 128, .int .u8 1] 5)) n6
  replace R1 := (R1.alloc (.cells #[.int .u8 128, .int .u8 1] 5)).drewN n6
  replace R2 := (R2.alloc (.cells #[.int .u8 128, .int .u8 1] 5)).drewN n6
  replace RA := (RA.allocS (.cells #[.int .u8 128, .int .u8 1] 5)).drewN n6
  clear HB5 RN RN'
  go_wp2_with fail
  refine (rdrNumber _ R1 (by omega)).mono ?_
  rintro e w7 ⟨rfl, R1, hg⟩
  simp only [rd1] at R1 ⊢
  have HB7 := HB6.trans (below_set hg HB6.size (by omega))
  replace R2 := R2.keep hg (by simp [h12]) (fun a ha h => by injection h with h; exact hA21 a ha h.symm)
  replace RA := RA.grownS hg (fun a ha h => by injection h with h; have := hAA a ha; omega)
  clear HB6 hg
  go_wp2_with fail
  refine (rdrLeft _ R1).mono ?_
  rintro e w8 ⟨rfl, n8, hw8⟩
  subst hw8
  go_wp2_with fail
  refine (rdrAt _ (R1.drewN n8)).mono ?_
  rintro e w9 ⟨rfl, hw9⟩
  subst hw9
  go_wp2_with fail
  refine (rdrNumber _ (R2.drewN n8) (by omega)).mono ?_
  rintro e w10 ⟨rfl, R2, hg⟩
  simp only [rd2] at R2 ⊢
  have HB10 := (below_drewN HB7 n8).trans (below_set hg (by have := HB7.size; simpa using this) hg2')
  replace RA := (RA.drewN n8).grownS hg (fun a ha h => by injection h with h; have := hAA a ha; omega)
  clear HB7 hg R1
  go_wp2_with fail
  refine (rdrErr _ R2).mono ?_
  rintro e w11 ⟨rfl, hw⟩
  subst hw
  clear R2
  go_wp2_with fail
  refine (wireOrderedText (xs := []) (s := ⟨#[97, 0, 98]⟩) _ (World.ownsRow_nil _ _ _ _) (Nat.le_refl _) (by decide) (by omega)).mono ?_
  rintro e w12 ⟨A12, c12, rfl, happ, hne12⟩
  simp only [txt1, List.nil_append] at happ ⊢
  have hb := happ.below0
  have HB12 := HB10.trans (hb.mono HB10.size)
  replace RA := RA.belowS hb
  have RN := (Rd.of_own happ.own).allocS (.cells #[.int .u8 97, .int .u8 0, .int .u8 255, .int .u8 98, .int .u8 0, .int .u8 1] 5)
  clear hb HB10 happ
  go_wp2_with fail
  refine (kitBytes (xs := [97, 0, 255, 98, 0, 1]) (ys := [97, 0, 255, 98, 0, 1]) _ RN (Rd.lit _ _ _) (by simp [maxLen]) (by simp [maxLen]) rfl rfl).mono ?_
  rintro e w13 ⟨rfl, n13, hw⟩
  subst hw
  rw [show eqb [97, 0, 255, 98, 0, 1] [97, 0, 255, 98, 0, 1] = true from by decide]
  have HB13 := below_drewN (HB12.alloc HB12.size (.cells #[.int .u8 97, .int .u8 0, .int .u8 255, .int .u8 98, .int .u8 0, .int .u8 1] 5)) n13
  replace RA := (RA.allocS (.cells #[.int .u8 97, .int .u8 0, .int .u8 255, .int .u8 98, .int .u8 0, .int .u8 1] 5)).drewN n13
  clear HB12 RN
  go_wp2_with fail
  refine (wireOrdered (xs := []) (x := 258) _ (World.ownsRow_nil _ _ _ _) (Nat.le_refl _) (by decide) (by omega)).mono ?_
  rintro e w14 ⟨A14, c14, rfl, happ, _⟩
  simp only [ord1, List.nil_append] at happ ⊢
  have hb := happ.below0
  have HB14 := HB13.trans (hb.mono HB13.size)
  replace RA := RA.belowS hb
  have RN := (Rd.of_own happ.own).allocS (.cells #[.int .u8 0, .int .u8 0, .int .u8 0, .int .u8 0, .int .u8 0, .int .u8 0, .int .u8 1, .int .u8 2] 5)
  clear hb HB13 happ
  go_wp2_with fail
  refine (kitBytes (xs := [0, 0, 0, 0, 0, 0, 1, 2]) (ys := [0, 0, 0, 0, 0, 0, 1, 2]) _ RN (Rd.lit _ _ _) (by simp [maxLen]) (by simp [maxLen]) rfl rfl).mono ?_
  rintro e w15 ⟨rfl, n15, hw⟩
  subst hw
  rw [show eqb [0, 0, 0, 0, 0, 0, 1, 2] [0, 0, 0, 0, 0, 0, 1, 2] = true from by decide]
  have HB15 := below_drewN (HB14.alloc HB14.size (.cells #[.int .u8 0, .int .u8 0, .int .u8 0, .int .u8 0, .int .u8 0, .int .u8 0, .int .u8 1, .int .u8 2] 5)) n15
  replace RA := ((RA.allocS (.cells #[.int .u8 0, .int .u8 0, .int .u8 0, .int .u8 0, .int .u8 0, .int .u8 0, .int .u8 1, .int .u8 2] 5)).allocS (.cells #[.int .u8 2] 5)).drewN n15
  have HB14' := HB14
  clear HB14 RN HB15
  go_wp2_with fail
  refine (kitBytes (xs := [2]) (ys := [2]) _ RA (Rd.drewN (Rd.lit' (by simp)) n15) (by simp [maxLen]) (by simp [maxLen]) rfl rfl).mono ?_
  rintro e w16 ⟨rfl, n16, hw⟩
  subst hw
  rw [show eqb [2] [2] = true from by decide]
  go_wp2
  go_ret
  refine ⟨rfl, ?_⟩
  simpa only [World.drewN_drewN] using below_drewN ((HB14'.alloc HB14'.size (.cells #[.int .u8 0, .int .u8 0, .int .u8 0, .int .u8 0, .int .u8 0, .int .u8 0, .int .u8 1, .int .u8 2] 5)).alloc (by simp; have := HB14'.size; omega) (.cells #[.int .u8 2] 5)) _
end Go.Proofs.Ytoflefonhegogaa
