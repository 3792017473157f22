/- Keys: First and Pack. -/
import Derived.Test.YtlamebbolioljaaScE
namespace Go.Proofs.Ytlamebbolioljaa
open Go.RowKit
theorem loadKy_shut (a : Addr) : loadVar 26 a = loadK 26 a := rfl
attribute [local go_sem ↓] loadKy_shut

def Ky.U64 (k : Ky) : Prop := k.hi < 18446744073709551616 ∧ k.lo < 18446744073709551616 ∧ k.id < 18446744073709551616 ∧ k.number < 18446744073709551616
def partEnc (k : Ky) (p : Int) : List Int := match (allOf k)[p.toNat]? with | some x => itEnc x | none => []
def keyTo (k : Ky) (l : List Int) : List Int := [k.kind % 256] ++ l.flatMap (partEnc k)
theorem keyTo_snoc (k : Ky) (l : List Int) (p : Int) : keyTo k (l ++ [p]) = keyTo k l ++ partEnc k p := by simp [keyTo]
def kyParts (k : Ky) : List Int := (partsOf k.kind).getD []
def firstOf (k : Ky) (n : Int) : List Int × Nat := if kyChk k ≠ 0 then ([], kyChk k) else if n < 0 ∨ ((kyParts k).length : Int) < n then ([], 2) else (keyTo k ((kyParts k).take n.toNat), 0)
def packOf (k : Ky) : List Int × Nat := firstOf k (kyParts k).length
def KeyMade (w : World) (r : List Int × Nat) (e : Ending) (w' : World) : Prop :=
  ∃ A c, e = .returned (.tuple #[.slice A r.1.length c, .int .i64 r.2]) ∧ Rb w' w'.heap.size A r.1 ∧ Below w.heap.size w w' ∧ r.1.length ≤ c ∧ (A = none → r.1 = [] ∧ c = 0) ∧ (∀ a, A = some a → w.heap.size ≤ a.block)
theorem KeyMade.no {w w' : World} {r : List Int × Nat} {e : Ending} {q : Nat} (h : r = ([], q)) (he : e = .returned (.tuple #[.slice none 0 0, .int .i64 q])) (hb : Below w.heap.size w w') : KeyMade w r e w' := by
  subst h
  exact ⟨none, 0, he, Rd.nil, hb, Nat.le_refl _, fun _ => ⟨rfl, rfl⟩, fun a h => by cases h⟩
set_option maxRecDepth 100000 in
theorem loadK_ky {w : World} {g : Nat} {k : Ky} (h : Bk w g 26 (kyC k)) : (loadK 26 ⟨g, 0, none⟩).run Try.prog w = .ok (kyV k) w :=
  run_loadVar_row w g _ _ (kyC k) (0, 0) _ h Try.underlying26 rfl (by rfl)
theorem partsOf_rng (k : Int) : ∀ p ∈ (partsOf k).getD [], 0 ≤ p ∧ p < 8 := by
  unfold partsOf
  cases hf : kinds.find? (fun p => p.1 == k) with
  | none => simp
  | some x =>
    have hm := List.mem_of_find?_eq_some hf
    have : ∀ x ∈ kinds, ∀ p ∈ x.2, 0 ≤ p ∧ p < 8 := by decide
    simpa using this x hm
theorem kyChk_ok {k : Ky} (h : kyChk k = 0) : k.service.size ≤ 128 ∧ k.name.size ≤ 128 ∧ k.value.size ≤ 128 ∧ 0 ≤ k.start ∧ k.start ≤ 4611686018427387903 ∧ (partsOf k.kind).isSome = true := by
  unfold kyChk at h
  by_cases h1 : kyLong k = true
  · rw [if_pos h1] at h; omega
  rw [if_neg h1] at h
  cases hp : partsOf k.kind with
  | none => rw [hp] at h; simp at h
  | some l =>
    rw [hp] at h
    simp only at h
    by_cases h2 : kyFine k l = true
    · simp [kyLong] at h1
      simp [kyFine] at h2
      obtain ⟨⟨a1, a2⟩, a3⟩ := h1
      exact ⟨by omega, by omega, by omega, by have := h2; simp only [and_assoc] at this; exact this.2.2.2.1, by have := h2; simp only [and_assoc] at this; exact this.2.2.2.2.1, rfl⟩
    · rw [if_neg h2] at h; omega
theorem all_fine {k : Ky} (hu : k.U64) (h : kyChk k = 0) : ∀ x ∈ allOf k, itFine x := by
  obtain ⟨a1, a2, a3, a4, a5, _⟩ := kyChk_ok h
  obtain ⟨u1, u2, u3, u4⟩ := hu
  intro x hx
  simp only [allOf, List.mem_cons, List.not_mem_nil, or_false] at hx
  rcases hx with rfl | rfl | rfl | rfl | rfl | rfl | rfl | rfl
  · exact u1
  · exact u2
  · exact u3
  · exact a1
  · exact a2
  · exact a3
  · show k.start.toNat < _
    omega
  · exact u4

/-- Behind the lookup of the parts. -/
structure FirM (w0 W : World) (g : Nat) (k : Ky) (v : Value) : Prop where
  cell : ∃ A, v = .slice A (kyParts k).length (kyParts k).length ∧ Rd W W.heap.size A (iv (kyParts k))
  key : Bk W g 26 (kyC k)
  bel : Below w0.heap.size w0 W
set_option maxRecDepth 100000 in
set_option maxHeartbeats 8000000 in
theorem scFirst (k : Ky) (n : Int) (w : World) (hu : k.U64) (hn0 : -9223372036854775808 ≤ n) (hn1 : n ≤ 9223372036854775807) :
    Calls Try.prog 14 #[kyV k, .int .i64 n] w (KeyMade w (firstOf k n)) := by
  have hb0 : Below w.heap.size w (w.alloc (.cells (kyC k) 26)) := (Below.refl _ w).alloc (Nat.le_refl _) _
  have bk := Bk.new w 26 (kyC k)
  obtain ⟨w1, hw1⟩ : ∃ w1, w.alloc (.cells (kyC k) 26) = w1 := ⟨_, rfl⟩
  rw [hw1] at hb0 bk
  have HW := Lib.hid hw1
  obtain ⟨g, hg⟩ : ∃ g, w.heap.size = g := ⟨_, rfl⟩
  rw [hg] at bk
  have HG := Lib.hid hg
  have HB0 := Lib.hid hb0
  have la := loadK_ky bk
  obtain ⟨q, hq⟩ : ∃ q, kyChk k = q := ⟨_, rfl⟩
  have cc := scCheck k w1
  rw [hq] at cc
  have CC := Lib.hid cc
  obtain ⟨r, hr⟩ : ∃ r, firstOf k n = r := ⟨_, rfl⟩
  rw [hr]
  by_cases hq0 : q = 0
  case neg =>
    have HR : Hid (r = ([], q)) := by rw [← hr, firstOf, if_pos (by omega), hq]; exact Lib.hid rfl
    have d : ((q : Int) != 0) = true := by rw [bne_iff_ne]; omega
    clear hw1 hg hb0 hq cc hr hq0
    go_enter Try.func14, Try.ntmps14
    go_upto_region 1 with fail
    rw [HW.out, HG.out]
    go_wp2_with (go_at_call 16; refine CC.out.mono ?_; rintro e w2 ⟨rfl, hb2⟩)
    go_ret2
    exact .no HR.out rfl (HB0.out.trans (hb2.mono HB0.out.size))
  case pos =>
    subst hq0
    have hch := all_fine hu hq
    have hok := kyChk_ok hq
    have HR : Hid (r = if n < 0 ∨ ((kyParts k).length : Int) < n then ([], 2) else (keyTo k ((kyParts k).take n.toNat), 0)) := by rw [← hr, firstOf, if_neg (by omega)]; exact Lib.hid rfl
    have HCH := Lib.hid hch
    have HOK := Lib.hid hok
    have hle : (kyParts k).length ≤ 7 := partsOf_len k.kind
    clear hw1 hg hb0 hq cc hr hch hok
    go_enter Try.func14, Try.ntmps14
    go_upto_region 1 with fail
    rw [HW.out, HG.out]
    go_upto_region 4 with (go_at_call 16; refine CC.out.mono ?_; rintro e w2 ⟨rfl, hb2⟩)
    have bk2 := bk.bS hb2
    have hbw : Below w.heap.size w w2 := HB0.out.trans (hb2.mono HB0.out.size)
    have kd0 : w2.drew.cell? ⟨g, 0, none⟩ = some (.int .i64 k.kind) := bk2.cell 0
    have HBW := Lib.hid hbw
    clear la bk hb2 hbw
    go_cut [7] from 16 to 19 (fun v W => FirM w W g k v)
    case first =>
      go_region_held3 (fun w' => w'.cell? ⟨g, 0, none⟩ = some (.int .i64 k.kind)) (go_keep)
        (first
          | (go_at_call 28
             refine (scParts _).mono ?_
             rintro e w3 ⟨pg, rfl, hp2, hpg, hb3⟩
             obtain ⟨A, hlk⟩ := parts_look pg k.kind
             have hlkt := (hlk w3 hp2).2 false
             have HLK := Lib.hid hlk
             have kd1 : w3.cell? ⟨g, 0, none⟩ = some (.int .i64 k.kind) := (bk2.drew.bS hb3).cell 0
             clear hlk)
          | fail)
      all_goals
        go_wp2
        go_meet
        exact ⟨⟨A, rfl, (HLK.out w3 hp2).1⟩, bk2.drew.bS hb3, (below_drewN HBW.out 1).trans (hb3.mono HBW.out.size)⟩
    case rest =>
      obtain ⟨⟨A, rfl, hrd⟩, hk, hbel⟩ := hcut
      obtain ⟨m, hm⟩ : ∃ m, (kyParts k).length = m := ⟨_, rfl⟩
      rw [hm] at hle ⊢
      have hr2 := HR.out
      rw [hm] at hr2
      have HM := Lib.hid hm
      have HR2 := Lib.hid hr2
      have kc0 : wc.cell? ⟨g, 0, none⟩ = some (.int .i64 k.kind) := hk.cell 0
      clear hm hr2 HR
      by_cases h1 : n < 0
      · go_wp2
        go_ret2
        exact .no (by rw [HR2.out, if_pos (.inl h1)]) rfl hbel
      by_cases h2 : (m : Int) < n
      · have d1 : decide (n < 0) = false := by simp; omega
        go_wp2
        go_ret2
        exact .no (by rw [HR2.out, if_pos (.inr h2)]) rfl hbel
      obtain ⟨j, rfl⟩ := Int.eq_ofNat_of_zero_le (show 0 ≤ n by omega)
      have d1 : decide ((j : Int) < 0) = false := by simp
      have d2 : decide ((m : Int) < (j : Int)) = false := by simp; omega
      have d3 : j ≤ m := by omega
      have d4 : decide (m < j) = false := by simp; omega
      have d5 : ¬ m < j := by omega
      have HR3 : Hid (r = (keyTo k ((kyParts k).take j), 0)) := by rw [HR2.out, if_neg (by omega)]; exact Lib.hid rfl
      clear h1 h2 hn0 hn1 HR2
      have hbw : w.heap.size ≤ wc.heap.size := hbel.size
      have ho : (wc.alloc (.cells #[.int .u8 (k.kind % 256)] 5)).ownsRow w.heap.size 5 1 (.slice (some ⟨wc.heap.size, 0, none⟩) 1 1) 1 (bv [k.kind % 256]) :=
        World.ownsRow_lit wc #[.int .u8 (k.kind % 256)] 1 hbw (by simp [maxLen]) rfl
      have hbl1 : Below w.heap.size w (wc.alloc (.cells #[.int .u8 (k.kind % 256)] 5)) := hbel.alloc hbw _
      have hk1 := hk.alloc (.cells #[.int .u8 (k.kind % 256)] 5)
      have hrd1 := hrd.alloc (Nat.le_refl _) (.cells #[.int .u8 (k.kind % 256)] 5)
      have hgl : g < wc.heap.size := hk.lt
      obtain ⟨W1, hW1⟩ : ∃ W1, wc.alloc (.cells #[.int .u8 (k.kind % 256)] 5) = W1 := ⟨_, rfl⟩
      have hs1 : W1.heap.size = wc.heap.size + 1 := by rw [← hW1]; simp
      rw [hW1] at ho hbl1 hk1 hrd1
      have HW1 := Lib.hid hW1
      have HS1 := Lib.hid hs1
      have HBEL := Lib.hid hbel
      have HK := Lib.hid hk
      have HRD := Lib.hid hrd
      clear hW1 hs1 hbel hk hrd
      go_wp2
      rw [HW1.out]
      obtain ⟨wh, hwh⟩ : ∃ wh, wc.heap.size = wh := ⟨_, rfl⟩
      rw [hwh] at ho hrd1 hgl hbw ⊢
      have HS2 : Hid (W1.heap.size = wh + 1) := by rw [HS1.out, hwh]; exact Lib.hid rfl
      clear hwh HS1 HW1 HBEL HK HRD kc0
      go_loopw [8, 36] (fun v i wr => ∃ (A' : Option Addr) (c' mm x : Nat) (ys : List Int), v = .slice A' mm c' ∧ i = .int .i64 x ∧ x ≤ j ∧ App w.heap.size 5 1 W1 (.slice (some ⟨wh, 0, none⟩) 1 1) wr (.slice A' mm c') mm (bv ys) ∧ ys = keyTo k ((kyParts k).take x) ∧ mm ≤ 1 + 258 * x ∧ Bk wr g 26 (kyC k) ∧ Rd wr wh A (iv (kyParts k)) ∧ Below w.heap.size w wr) (fun _ i _ => j - (intOf i).toNat)
      case atStart => exact ⟨_, 1, 1, 0, _, rfl, rfl, Nat.zero_le _, App.refl ho, by simp [keyTo], by omega, hk1, hrd1, hbl1⟩
      case round =>
        obtain ⟨A', c', mm, x, ys, rfl, rfl, hx, happ, hys, hmm, hkr, hrr, hbr⟩ := hrel
        have HY := Lib.hid hys
        clear hys hk1 hrd1 hbl1 ho
        have hrow : ∀ b, (Value.slice A' mm c').ownBlock = some b → wh ≤ b := fun b hb => by
          rcases happ.block with h | ⟨b', h, h2⟩
          · rw [hb] at h; simp [Value.ownBlock] at h; omega
          · rw [hb] at h; cases h; rw [HS2.out] at h2; omega
        by_cases hlt : x < j
        · have hlt' : (x : Int) < (j : Int) := by omega
          obtain ⟨p, hp⟩ : ∃ p, (kyParts k)[x]? = some p := ⟨_, List.getElem?_eq_getElem (by rw [HM.out]; omega)⟩
          obtain ⟨b, o, rfl, hbb, hc⟩ := hrr.get (iv_get hp)
          have hpr := partsOf_rng k.kind p (List.mem_of_getElem? hp)
          obtain ⟨pn, rfl⟩ := Int.eq_ofNat_of_zero_le hpr.1
          have hp8 : pn < 8 := by omega
          obtain ⟨it, hit⟩ : ∃ it, (allOf k)[pn]? = some it := ⟨_, List.getElem?_eq_getElem (by simpa [allOf] using hp8)⟩
          have hfit := HCH.out it (List.mem_of_getElem? hit)
          have hlen := itEnc_len hfit
          have HN : Hid (ys ++ itsEnc [it] = keyTo k ((kyParts k).take (x + 1))) := by
            rw [take_snoc hp, keyTo_snoc, ← HY.out]
            have : partEnc k (pn : Int) = itsEnc [it] := by simp [partEnc, hit, itsEnc]
            rw [this]
            exact Lib.hid rfl
          obtain ⟨tt, vv, hv⟩ : ∃ t v, ifV it = .iface t v := by cases it <;> exact ⟨_, _, rfl⟩
          have HV := Lib.hid hv
          have HIT := Lib.hid hit
          have HFI := Lib.hid hfit
          have la := loadK_ky hkr
          have ca := scAll k wr HOK.out.2.2.2.1 HOK.out.2.2.2.2.1
          have CA := Lib.hid ca
          have HKR := Lib.hid hkr
          have HRR := Lib.hid hrr
          clear hp hit hpr hfit ca hkr hrr hv
          go_wp2_with (go_at_call 35; refine CA.out.mono ?_; rintro e w3 ⟨g2, rfl, hcs, hb3, hg3⟩; have hc3 := hcs pn it HIT.out; rw [HV.out] at hc3; clear hcs)
          have hap3 := (happ.later hb3).alloc (.cells #[.iface tt vv] 20)
          have hsep : Sep A' (some ⟨w3.heap.size, 0, none⟩) := fun a b ha hb e => by
            subst ha
            cases hb
            have h1 := (happ.later hb3).own.lt a.block rfl
            have h2 : a.block = w3.heap.size := e
            omega
          have hl1 : (ys ++ itsEnc [it]).length ≤ mm + 258 := by
            have h1 := own_length happ.own
            rw [bv_length] at h1
            rw [List.length_append, h1]
            simp [itsEnc]
            exact hlen
          have cp := scPack (l := [it]) (k := 1) (w3.alloc (.cells #[.iface tt vv] 20)) hap3.own (by have h1 := hbr.size; have h2 := hb3.size; simp; omega) (by show Rd _ _ _ [ifV it]; rw [HV.out]; exact Rd.lit w3 #[.iface tt vv] _) (by simp) hsep (by intro y hy; simp at hy; subst hy; exact HFI.out) rfl (by omega) (by omega) (c1 := 1)
          obtain ⟨zs, hzs⟩ : ∃ zs, ys ++ itsEnc [it] = zs := ⟨_, rfl⟩
          rw [hzs] at cp hl1
          have HN2 : Hid (zs = keyTo k ((kyParts k).take (x + 1))) := by rw [← HN.out, ← hzs]; exact Lib.hid rfl
          have CP := Lib.hid cp
          clear cp hzs
          go_wp2_with (go_at_call 34; refine CP.out.mono ?_; rintro e w4 ⟨A4, c4, rfl, h4, -⟩)
          have hg4 : g < wh := hgl
          go_roundw
          case rel => exact ⟨A4, c4, _, x + 1, zs, rfl, by go_num, by omega, hap3.trans h4, HN2.out, by omega, ((HKR.out.bS hb3).alloc _).grown h4.grown (fun e => by have := hrow g e.symm; omega),
            (((HRR.out.below (hb3.mono (by have := happ.heap; rw [HS2.out] at this; omega))).more (Nat.le_refl _)).alloc (by have := happ.heap; rw [HS2.out] at this; have := hb3.size; omega) _).grown h4.grown (by have := happ.heap; rw [HS2.out] at this; have := hb3.size; simp; omega) hrow,
            ((hbr.trans (hb3.mono hbr.size)).alloc (Nat.le_trans hbr.size hb3.size) _).trans (grown_below h4.grown (by have h1 := hbr.size; have h2 := hb3.size; simp; omega) (fun b hb => by have := hrow b hb; omega))⟩
          case measure => simp [intOf]; omega
        · have hlt' : decide ((x : Int) < (j : Int)) = false := by simp; omega
          have HE : Hid (ys = keyTo k ((kyParts k).take j)) := by rw [HY.out, show x = j from by omega]; exact Lib.hid rfl
          have hml : ys.length = mm := by have := own_length happ.own; rwa [bv_length] at this
          have HML := Lib.hid hml
          clear hml
          go_wp2
          go_ret2
          have hle2 := happ.cap
          refine ⟨A', c', by rw [HR3.out, ← HE.out, HML.out]; rfl, by rw [HR3.out, ← HE.out]; exact happ.rd, hbr, by rw [HR3.out, ← HE.out, HML.out]; exact hle2, fun e => ?_, fun a e => ?_⟩
          · have h1 : (keyTo k ((kyParts k).take j)).length ≠ 0 := by simp [keyTo]
            rw [← HE.out, HML.out] at h1
            subst e
            rcases happ.own.2 with ⟨h2, h3⟩ | ⟨_, _, _, h2, _⟩
            · exact absurd h3 h1
            · injection h2 with h2; cases h2
          · subst e
            exact (happ.own.lt a.block rfl).1
set_option maxRecDepth 100000 in
set_option maxHeartbeats 4000000 in
theorem scPackK (k : Ky) (w : World) (hu : k.U64) : Calls Try.prog 10 #[kyV k] w (KeyMade w (packOf k)) := by
  have hb0 : Below w.heap.size w (w.alloc (.cells (kyC k) 26)) := (Below.refl _ w).alloc (Nat.le_refl _) _
  have bk := Bk.new w 26 (kyC k)
  obtain ⟨w1, hw1⟩ : ∃ w1, w.alloc (.cells (kyC k) 26) = w1 := ⟨_, rfl⟩
  rw [hw1] at hb0 bk
  have HW := Lib.hid hw1
  obtain ⟨g, hg⟩ : ∃ g, w.heap.size = g := ⟨_, rfl⟩
  rw [hg] at bk
  have HG := Lib.hid hg
  have HB0 := Lib.hid hb0
  obtain ⟨r, hr⟩ : ∃ r, packOf k = r := ⟨_, rfl⟩
  rw [hr]
  have hle : (kyParts k).length ≤ 7 := partsOf_len k.kind
  have cf : ∀ W, Calls Try.prog 14 #[kyV k, .int .i64 (kyParts k).length] W (KeyMade W r) := fun W => by
    rw [← hr]
    exact scFirst k _ W hu (by omega) (by omega)
  have CF := Lib.hid cf
  have la := loadK_ky bk.drew
  have kd0 : w1.drew.cell? ⟨g, 0, none⟩ = some (.int .i64 k.kind) := bk.drew.cell 0
  have hbd := below_drewN hb0 1
  have HBD : Hid (Below w.heap.size w w1.drew) := hbd
  clear hw1 hg hb0 hr cf hbd
  go_enter Try.func10, Try.ntmps10
  go_upto_region 1 with fail
  rw [HW.out, HG.out]
  go_region_held3 (fun w' => (loadK 26 ⟨g, 0, none⟩).run Try.prog w' = .ok (kyV k) w' ∧ w'.cell? ⟨g, 0, none⟩ = some (.int .i64 k.kind)) (go_keep)
    (first
      | (go_at_call 28
         refine (scParts _).mono ?_
         rintro e w3 ⟨pg, rfl, hp2, hpg, hb3⟩
         obtain ⟨A, hlk⟩ := parts_look pg k.kind
         have hlkt : (Instr.lookup 65 (.map (some pg)) (.int .i64 k.kind) false).run Try.prog w3 = .ok (.slice A (kyParts k).length (kyParts k).length) w3 := (hlk w3 hp2).2 false
         have bk3 := bk.drew.bS hb3
         have la3 := loadK_ky bk3
         have kd1 : w3.cell? ⟨g, 0, none⟩ = some (.int .i64 k.kind) := bk3.cell 0
         clear hlk)
      | (go_at_call 14
         refine (CF.out _).mono ?_
         rintro e w4 ⟨A4, c4, rfl, hR4⟩
         have HR4 := Lib.hid hR4
         clear hR4
         have bk4 := bk3.bS HR4.out.2.1
         have la4 := loadK_ky bk4
         have kd4 : w4.cell? ⟨g, 0, none⟩ = some (.int .i64 k.kind) := bk4.cell 0)
      | fail)
  all_goals
    go_wp2
    go_ret2
    obtain ⟨h1, h2, h3, h4, h5⟩ := HR4.out
    have hbb : Below w.heap.size w w3 := HBD.out.trans (hb3.mono HBD.out.size)
    exact ⟨A4, c4, rfl, h1, hbb.trans (h2.mono hbb.size), h3, h4, fun a e => Nat.le_trans hbb.size (h5 a e)⟩
end Go.Proofs.Ytlamebbolioljaa
