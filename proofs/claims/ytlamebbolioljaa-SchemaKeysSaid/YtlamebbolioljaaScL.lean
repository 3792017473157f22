/- Keys: the document's Unpack. -/
import Derived.Test.YtlamebbolioljaaScK
import Derived.Test.YtlamebbolioljaaScI
namespace Go.Proofs.Ytlamebbolioljaa
open Go.RowKit
theorem loadKy_shut4 (a : Addr) : loadVar 26 a = loadK 26 a := rfl
attribute [local go_sem ↓] loadKy_shut4

/-- The memory of the document's Unpack. -/
structure RnM (w0 W : World) (rb g pb : Nat) (A : Option Addr) (l : List Int) (Ab : Option Addr) (b : List Int) (k : Ky) : Prop where
  res : Bk W rb 26 zkyC
  key : Bk W g 26 (kyC k)
  parts : Rd W pb A (iv l)
  pfar : ∀ a, A = some a → g < a.block
  bytes : Rb W rb Ab b
  bel : Below w0.heap.size w0 W
  o1 : w0.heap.size ≤ rb
  o2 : rb < g
  o3 : pb ≤ W.heap.size
section
variable {w0 W W' : World} {rb g pb : Nat} {A Ab : Option Addr} {l b : List Int} {k : Ky}
theorem RnM.below (h : RnM w0 W rb g pb A l Ab b k) (hb : Below W.heap.size W W') : RnM w0 W' rb g pb A l Ab b k :=
  have h1 := h.res.lt
  have h3 := h.o3
  have h4 := hb.size
  ⟨h.res.bS hb, h.key.bS hb, h.parts.below (hb.mono h3), h.pfar, h.bytes.below (hb.mono (by omega)), h.bel.trans (hb.mono h.bel.size), h.o1, h.o2, by omega⟩
theorem RnM.setKey (h : RnM w0 W rb g pb A l Ab b k) (o : Nat) (u : Value) {k' : Ky} (hk : (kyC k).setIfInBounds o u = kyC k') : RnM w0 (W.setCell ⟨g, o, none⟩ u) rb g pb A l Ab b k' :=
  have o2 := h.o2
  ⟨h.res.far (by show rb ≠ g; omega) _, hk ▸ h.key.set o u, h.parts.setfarK (fun a ha => by have := h.pfar a ha; show a.block ≠ g; omega) _, h.pfar, h.bytes.set (by show rb ≤ g; omega) _,
    h.bel.setCell (by have := h.o1; show w0.heap.size ≤ g; omega) _, h.o1, h.o2, by have := h.o3; simpa [World.setCell] using this⟩
theorem RnM.drop (h : RnM w0 W rb g pb A l Ab b k) {i c : Nat} (hc : b.length ≤ c) : RnM w0 W rb g pb A l (if c = i then Ab else Ab.map (·.add i)) (b.drop i) k :=
  ⟨h.res, h.key, h.parts, h.pfar, h.bytes.drop hc, h.bel, h.o1, h.o2, h.o3⟩
theorem RnM.n0 (h : RnM w0 W rb g pb A l Ab b k) (x : Nat) : RnM w0 (W.setCell ⟨g, 1, none⟩ (.int .u64 x)) rb g pb A l Ab b (putN k 0 x) := h.setKey 1 _ rfl
theorem RnM.n1 (h : RnM w0 W rb g pb A l Ab b k) (x : Nat) : RnM w0 (W.setCell ⟨g, 2, none⟩ (.int .u64 x)) rb g pb A l Ab b (putN k 1 x) := h.setKey 2 _ rfl
theorem RnM.n2 (h : RnM w0 W rb g pb A l Ab b k) (x : Nat) : RnM w0 (W.setCell ⟨g, 3, none⟩ (.int .u64 x)) rb g pb A l Ab b (putN k 2 x) := h.setKey 3 _ rfl
theorem RnM.n7 (h : RnM w0 W rb g pb A l Ab b k) (x : Nat) : RnM w0 (W.setCell ⟨g, 7, none⟩ (.int .u64 x)) rb g pb A l Ab b (putN k 7 x) := h.setKey 7 _ rfl
theorem RnM.n6 (h : RnM w0 W rb g pb A l Ab b k) (x : Nat) : RnM w0 W rb g pb A l Ab b (putN k 6 x) := h
theorem RnM.s3 (h : RnM w0 W rb g pb A l Ab b k) (x : ByteArray) : RnM w0 (W.setCell ⟨g, 4, none⟩ (.string x)) rb g pb A l Ab b (putS k 3 x) := h.setKey 4 _ rfl
theorem RnM.s4 (h : RnM w0 W rb g pb A l Ab b k) (x : ByteArray) : RnM w0 (W.setCell ⟨g, 5, none⟩ (.string x)) rb g pb A l Ab b (putS k 4 x) := h.setKey 5 _ rfl
theorem RnM.s5 (h : RnM w0 W rb g pb A l Ab b k) (x : ByteArray) : RnM w0 (W.setCell ⟨g, 6, none⟩ (.string x)) rb g pb A l Ab b (putS k 5 x) := h.setKey 6 _ rfl
end
set_option maxRecDepth 100000 in
set_option maxHeartbeats 1000000 in
theorem rUnpack0 {A0 : Option Addr} {c0 : Nat} (w : World) : Calls Try.prog 13 #[.slice A0 0 c0] w (UnPost w (zeroKy, 12)) := by
  go_enter Try.func13, Try.ntmps13
  go_wp2
  refine bodyPost_ret (results_cell_row_tmpK rfl _ _ w.heap.size 26 zkyC _ rfl (Bk.new w _ zkyC) Try.underlying26 rfl (by rfl)) rfl ?_
  exact ⟨rfl, (Below.refl _ w).alloc (Nat.le_refl _) _⟩
set_option maxRecDepth 100000 in
set_option maxHeartbeats 8000000 in
theorem rUnpack1 {A0 : Option Addr} {c0 B n : Nat} {cb : Int} {rest : List Int} (w : World) (ha : Rb w B A0 (cb :: rest)) (hB : B ≤ w.heap.size) (hz : Byt (cb :: rest)) (hl : n ≤ 1000000) (hn : rest.length + 1 = n) (hc : n ≤ c0) :
    Calls Try.prog 13 #[.slice A0 n c0] w (UnPost w (unpOf (cb :: rest))) := by
  obtain ⟨r, hr⟩ : ∃ r, unpOf (cb :: rest) = r := ⟨_, rfl⟩
  rw [hr]
  obtain ⟨k0, hk0⟩ : ∃ k0 : Ky, { zeroKy with kind := cb } = k0 := ⟨_, rfl⟩
  have hkk : k0.kind = cb := by rw [← hk0]
  have hr2 : r = match partsOf k0.kind with | none => (zeroKy, 4) | some l => unpEnd (unpGo l rest k0 0) := by subst hk0; exact hr.symm
  have HR := Lib.hid hr2
  obtain ⟨b, o, rfl, hbb, hcell⟩ := Rd.get (k := 0) (u := .int .u8 cb) ha rfl
  have hzc := hz cb (by simp)
  have hb0 : Below w.heap.size w ((w.alloc (.cells zkyC 26)).alloc (.cells #[.int .i64 cb, .int .u64 0, .int .u64 0, .int .u64 0, .string ⟨#[]⟩, .string ⟨#[]⟩, .string ⟨#[]⟩, .int .u64 0, .int .i64 0] 26)) := ((Below.refl _ w).alloc (Nat.le_refl _) _).alloc (by simp) _
  have bkr := (Bk.new w 26 zkyC).alloc (.cells #[.int .i64 cb, .int .u64 0, .int .u64 0, .int .u64 0, .string ⟨#[]⟩, .string ⟨#[]⟩, .string ⟨#[]⟩, .int .u64 0, .int .i64 0] 26)
  have bk : Bk ((w.alloc (.cells zkyC 26)).alloc (.cells #[.int .i64 cb, .int .u64 0, .int .u64 0, .int .u64 0, .string ⟨#[]⟩, .string ⟨#[]⟩, .string ⟨#[]⟩, .int .u64 0, .int .i64 0] 26)) (w.heap.size + 1) 26 (kyC k0) := by
    have h := Bk.new (w.alloc (.cells zkyC 26)) 26 (kyC k0)
    rw [World.size_alloc, ← hk0] at h
    rw [← hk0]
    exact h
  have ha1 := (ha.below (Below.refl B w)).below (hb0.mono hB)
  have hcell0 : (w.alloc (.cells zkyC 26)).cell? ⟨b, o, none⟩ = some (.int .u8 cb) := (World.cell?_alloc_lt w _ ⟨b, o, none⟩ (by show b < _; omega)).trans hcell
  obtain ⟨w1, hw1⟩ : ∃ w1, (w.alloc (.cells zkyC 26)).alloc (.cells #[.int .i64 cb, .int .u64 0, .int .u64 0, .int .u64 0, .string ⟨#[]⟩, .string ⟨#[]⟩, .string ⟨#[]⟩, .int .u64 0, .int .i64 0] 26) = w1 := ⟨_, rfl⟩
  rw [hw1] at hb0 bk bkr ha1
  have HW := Lib.hid hw1
  obtain ⟨rb, hrb⟩ : ∃ rb, w.heap.size = rb := ⟨_, rfl⟩
  have hB2 : B ≤ rb := by omega
  rw [hrb] at bk bkr
  have HG := Lib.hid hrb
  have HB0 := Lib.hid hb0
  have HK0 := Lib.hid hk0
  have kd1 : w1.cell? ⟨rb + 1, 0, none⟩ = some (.int .i64 cb) := by rw [← hkk]; exact bk.cell 0
  have hn0 : ((n : Int) == 0) = false := by simp; omega
  have HKK := Lib.hid hkk
  have HA := Lib.hid ha
  clear hr hr2 hw1 hrb hb0 hk0 hkk ha
  have hsl : ∀ W, (Instr.slice 27 (.slice (some ⟨b, o, none⟩) n c0) (some (.int .i64 1)) none none).run Try.prog W = .ok (.slice (offA (some ⟨b, o, none⟩) c0 1) (n - 1) (c0 - 1)) W := fun W => run_slK W _ n c0 .i64 1 (by omega) (by omega)
  go_enter Try.func13, Try.ntmps13
  go_upto_region 4 with fail
  rw [HW.out, HG.out]
  have cp := refParts2 k0.kind w1
  rw [HKK.out] at cp
  have CP := Lib.hid cp
  clear cp
  go_upto_region 5 with (go_at_call 29; refine CP.out.mono ?_; rintro e wc ⟨A, cA, rfl, hrd, hb3, hfar⟩)
  have hres := bkr.bS hb3
  have hkey := bk.bS hb3
  have hbel := HB0.out.trans (hb3.mono HB0.out.size)
  have hpf : ∀ a, A = some a → rb + 1 < a.block := fun a ha => by have h1 := hfar a ha; have h2 := bk.lt; omega
  obtain ⟨op, ho⟩ : ∃ op, partsOf cb = op := ⟨_, rfl⟩
  have hle : ((partsOf cb).getD []).length ≤ 7 := partsOf_len cb
  have hr2 := HR.out
  rw [HKK.out] at hr2
  rw [ho] at hr2 hle ⊢
  have HO := Lib.hid ho
  clear HR kd1 hfar bk bkr CP
  cases op with
  | none =>
    have HR2 := Lib.hid hr2
    clear hr2 hrd ho
    go_upto_region 6 with fail
    go_wp2_with (refine wpList_store_row rfl 26 (.tmp 2) (.tmp 32) rfl rb zkyC rfl rfl 26 zkyC hres (by rfl) rfl zkyC_one ?_)
    refine bodyPost_ret (results_cell_row_tmpK rfl _ _ rb 26 zkyC _ rfl (hres.rowK zkyC) Try.underlying26 rfl (by rfl)) rfl ?_
    rw [HR2.out]
    exact ⟨rfl, below_rowK hbel (by rw [← HG.out]; exact Nat.le_refl _) _⟩
  | some l =>
    have hrl : rl cb = l.map ren := rl_some ho
    rw [hrl, List.length_map]
    rw [hrl] at hrd
    simp only [Option.isSome_some, Option.getD_some] at hle ⊢
    have hr3 : r = unpEnd (unpGo l rest k0 0) := hr2
    obtain ⟨X, hX⟩ : ∃ X, unpGo l rest k0 0 = X := ⟨_, rfl⟩
    rw [hX] at hr3
    have HR3 := Lib.hid hr3
    have HRNG : Hid (∀ p ∈ l, 0 ≤ p ∧ p < 8) := by
      have h := partsOf_rng cb
      rw [ho] at h
      exact Lib.hid h
    have HX := Lib.hid hX
    obtain ⟨m, hm⟩ : ∃ m, l.length = m := ⟨_, rfl⟩
    rw [hm] at hle ⊢
    have HM := Lib.hid hm
    have hbyt : Byt rest := fun y hy => hz y (List.mem_cons_of_mem _ hy)
    have hrbw : w.heap.size = rb := HG.out
    have hbl := hbel.size
    have hum : RnM w wc rb (rb + 1) wc.heap.size A (l.map ren) (offA (some ⟨b, o, none⟩) c0 1) rest k0 :=
      ⟨hres, hkey, hrd, hpf, by
        have h := (Rb.drop HA.out (k := 1) (cap := c0) (by simp; omega)).more hB2
        rw [← hrbw] at h ⊢
        exact h.below hbel, hbel, by omega, by omega, Nat.le_refl _⟩
    obtain ⟨pb, hpb⟩ : ∃ pb, wc.heap.size = pb := ⟨_, rfl⟩
    rw [hpb] at hum
    clear hr3 hr2 hX hm hn0 hzc hcell hcell0 hres hkey hbel hpf hrd ho hrl hpb hbl hrbw hb3
    go_wp2
    go_loopw [0, 7, 8] (fun v st i wr => ∃ (Ab : Option Addr) (c j : Nat) (bb : List Int) (k : Ky) (t : Nat), v = .slice Ab bb.length c ∧ st = .int .u64 t ∧ i = .int .i64 j ∧ j ≤ m ∧ RnM w wr rb (rb + 1) pb A (l.map ren) Ab bb k ∧ bb.length ≤ c ∧ Byt bb ∧ bb.length ≤ 1000000 ∧ k.kind = cb ∧ unpGo (l.drop j) bb k t = X) (fun _ _ i _ => m - (intOf i).toNat)
    case atStart => exact ⟨_, c0 - 1, 0, rest, k0, 0, by rw [← hn]; rfl, rfl, rfl, Nat.zero_le _, hum, by omega, hbyt, by omega, HKK.out, HX.out⟩
    case round =>
      obtain ⟨Ab, c, j, bb, k, t, rfl, rfl, rfl, hj, um, hcc, hby, hbl, hkd, hgo⟩ := hrel
      have HGO := Lib.hid hgo
      have HKD := Lib.hid hkd
      obtain ⟨ln, hln⟩ : ∃ ln, bb.length = ln := ⟨_, rfl⟩
      rw [hln] at hcc hbl ⊢
      have HLN := Lib.hid hln
      clear hgo hkd hum hbyt hln
      by_cases hlt : j < m
      · have hlt' : (j : Int) < (m : Int) := by omega
        have hj0 : (0 : Int) ≤ (j : Int) := by omega
        obtain ⟨p, hp⟩ : ∃ p, l[j]? = some p := ⟨_, List.getElem?_eq_getElem (by rw [HM.out]; exact hlt)⟩
        have hp' : (l.map ren)[j]? = some (ren p) := by rw [List.getElem?_map, hp]; rfl
        obtain ⟨bp, po, rfl, hbp, hpc⟩ := um.parts.get (iv_get hp')
        have hrg := HRNG.out p (List.mem_of_getElem? hp)
        have HD : Hid (l.drop j = p :: l.drop (j + 1)) := by
          obtain ⟨h, e⟩ := List.getElem?_eq_some_iff.1 hp
          rw [List.drop_eq_getElem_cons h, e]
          exact Lib.hid rfl
        have HPF : Hid (rb + 1 < bp) := Lib.hid (um.pfar _ rfl)
        have HRB := Lib.hid (show rb ≤ wr.heap.size by have := um.res.lt; omega)
        have hcs : (isTxt p = false ∧ ((p = 0 ∧ ren p = 0) ∨ (p = 1 ∧ ren p = 1) ∨ (p = 2 ∧ ren p = 2) ∨ (p = 6 ∧ ren p = 7) ∨ (p = 7 ∧ ren p = 6))) ∨ (isTxt p = true ∧ ((p = 3 ∧ ren p = 3) ∨ (p = 4 ∧ ren p = 4) ∨ (p = 5 ∧ ren p = 5))) := by
          have h8 : p = 0 ∨ p = 1 ∨ p = 2 ∨ p = 3 ∨ p = 4 ∨ p = 5 ∨ p = 6 ∨ p = 7 := by omega
          rcases h8 with rfl | rfl | rfl | rfl | rfl | rfl | rfl | rfl <;> decide
        clear hp hp' hrg
        rcases hcs with ⟨htx, hcs⟩ | ⟨htx, hcs⟩
        · by_cases h8 : ln < 8
          · have HE : Hid (r = (zeroKy, 12)) := by
              rw [HR3.out, ← HGO.out, HD.out, unpGo_short htx (by rw [HLN.out]; exact h8)]
              exact Lib.hid rfl
            have hres := um.res
            have HUM1 := Lib.hid um
            clear htx um
            rcases hcs with ⟨-, hr⟩ | ⟨-, hr⟩ | ⟨-, hr⟩ | ⟨-, hr⟩ | ⟨-, hr⟩
            all_goals
              rw [hr] at hpc
              clear hr
              go_upto_region 19 with (go_at_call 33; refine (refReadOrdered0 _ h8).mono ?_; rintro e w' ⟨rfl, rfl⟩)
              go_wp2_with (refine wpList_store_row rfl 26 (.tmp 2) (.tmp 75) rfl rb zkyC rfl rfl 26 zkyC hres (by rfl) rfl zkyC_one ?_)
              refine bodyPost_ret (results_cell_row_tmpK rfl _ _ rb 26 zkyC _ rfl (hres.rowK zkyC) Try.underlying26 rfl (by rfl)) rfl ?_
              rw [HE.out]
              exact ⟨rfl, below_rowK HUM1.out.bel HUM1.out.o1 _⟩
          · obtain ⟨x, hx⟩ : ∃ x, ordVal (bb.take 8) = x := ⟨_, rfl⟩
            have cr := refReadOrdered1 (c := c) wr um.bytes hby (by simp only [maxLen]; rw [HLN.out]; omega) (show 8 ≤ ln by omega) HLN.out
            rw [hx] at cr
            have hsl : ∀ W, (Instr.slice 27 (.slice Ab ln c) (some (.int .i64 8)) none none).run Try.prog W = .ok (.slice (offA Ab c 8) (ln - 8) (c - 8)) W := fun W => run_slK W _ ln c .i64 8 (by omega) (by omega)
            have HG2 : Hid (unpGo (l.drop (j + 1)) (bb.drop 8) (putN k p x) (putT t p x) = X) := by
              rw [← HGO.out, HD.out, unpGo_num htx (by rw [HLN.out]; omega), hx]
              exact Lib.hid rfl
            have HKN : Hid ((putN k p x).kind = cb) := by rw [putN_kind]; exact HKD
            have CR := Lib.hid cr
            have HUM1 := Lib.hid um
            have c1 : wr.cell? ⟨rb + 1, 1, none⟩ = some (.int .u64 k.hi) := um.key.cell 1
            have c2 : wr.cell? ⟨rb + 1, 2, none⟩ = some (.int .u64 k.lo) := um.key.cell 2
            have c3 : wr.cell? ⟨rb + 1, 3, none⟩ = some (.int .u64 k.id) := um.key.cell 3
            have c7 : wr.cell? ⟨rb + 1, 7, none⟩ = some (.int .u64 k.number) := um.key.cell 7
            have f1 := um.key.frozen 1
            have f2 := um.key.frozen 2
            have f3 := um.key.frozen 3
            have f7 := um.key.frozen 7
            clear htx um cr hx HD
            rcases hcs with ⟨rfl, hr⟩ | ⟨rfl, hr⟩ | ⟨rfl, hr⟩ | ⟨rfl, hr⟩ | ⟨rfl, hr⟩
            all_goals
              rw [hr] at hpc
              clear hr
              go_wp2_with (go_at_call 33; refine CR.out.mono ?_; rintro e w' ⟨rfl, rfl⟩)
              go_roundw
              case rel => exact ⟨offA Ab c 8, c - 8, j + 1, bb.drop 8, _, _, by rw [List.length_drop, HLN.out], rfl, by go_num, by omega, (by first | exact (HUM1.out.n0 x).drop (by rw [HLN.out]; exact hcc) | exact (HUM1.out.n1 x).drop (by rw [HLN.out]; exact hcc) | exact (HUM1.out.n2 x).drop (by rw [HLN.out]; exact hcc) | exact (HUM1.out.n7 x).drop (by rw [HLN.out]; exact hcc) | exact (HUM1.out.n6 x).drop (by rw [HLN.out]; exact hcc)), by rw [List.length_drop, HLN.out]; omega, hby.drop 8, by rw [List.length_drop, HLN.out]; omega, HKN.out, HG2.out⟩
              case measure => simp [intOf]; omega
        · have cr := refReadOrderedText (c := c) wr um.bytes HRB.out hby (by rw [HLN.out]; omega) HLN.out
          cases hto : txtOf bb with
          | inr e =>
            rw [hto] at cr
            have he0 : e ≠ 0 := by have := txtOf_err hto; omega
            have HE : Hid (r = (zeroKy, e)) := by
              rw [HR3.out, ← HGO.out, HD.out, unpGo_txtBad htx hto]
              exact Lib.hid rfl
            have d : ((e : Int) != 0) = true := by rw [bne_iff_ne]; omega
            have CR := Lib.hid cr
            have HUM1 := Lib.hid um
            clear htx um cr hto he0
            rcases hcs with ⟨-, hr⟩ | ⟨-, hr⟩ | ⟨-, hr⟩
            all_goals
              rw [hr] at hpc
              clear hr
              go_upto_region 19 with (go_at_call 32; refine CR.out.mono ?_; rintro en w5 ⟨rfl, hb5⟩; have u5 := HUM1.out.below hb5; have hres := u5.res)
              go_wp2_with (refine wpList_store_row rfl 26 (.tmp 2) (.tmp 75) rfl rb zkyC rfl rfl 26 zkyC hres (by rfl) rfl zkyC_one ?_)
              refine bodyPost_ret (results_cell_row_tmpK rfl _ _ rb 26 zkyC _ rfl (hres.rowK zkyC) Try.underlying26 rfl (by rfl)) rfl ?_
              rw [HE.out]
              exact ⟨rfl, below_rowK u5.bel u5.o1 _⟩
          | inl oi =>
            obtain ⟨o2, i⟩ := oi
            rw [hto] at cr
            have hil := txtOf_le hto
            rw [HLN.out] at hil
            have hsl : ∀ W, (Instr.slice 27 (.slice Ab ln c) (some (.int .i64 (i : Nat))) none none).run Try.prog W = .ok (.slice (offA Ab c i) (ln - i) (c - i)) W := fun W => by
              have h := run_slK W Ab ln c .i64 i (by omega) (by omega)
              simpa using h
            obtain ⟨s, hs⟩ : ∃ s, strOfNums o2 = s := ⟨_, rfl⟩
            have HG2 : Hid (unpGo (l.drop (j + 1)) (bb.drop i) (putS k p s) t = X) := by
              rw [← HGO.out, HD.out, unpGo_txt htx hto, hs]
              exact Lib.hid rfl
            have HKN : Hid ((putS k p s).kind = cb) := by rw [putS_kind]; exact HKD
            have cr2 : Calls Try.prog 32 #[.slice Ab ln c] wr fun e w' => e = .returned (.tuple #[.string s, .int .i64 i, .int .i64 0]) ∧ Below wr.heap.size wr w' := by rw [← hs]; exact cr
            have CR := Lib.hid cr2
            have HUM1 := Lib.hid um
            have HPC := Lib.hid hpc
            have HBP := Lib.hid (show bp < wr.heap.size by have := um.o3; omega)
            clear htx um cr cr2 hto hs HD hpc
            rcases hcs with ⟨rfl, hr⟩ | ⟨rfl, hr⟩ | ⟨rfl, hr⟩
            all_goals
              have hpc := HPC.out
              rw [hr] at hpc
              have HPC2 := Lib.hid hpc
              clear hr HPC
              go_wp2_with (go_at_call 32
                           refine CR.out.mono ?_
                           rintro en w5 ⟨rfl, hb5⟩
                           have hp5 := (hb5.cell (p := ⟨bp, po + j, none⟩) HBP.out).trans HPC2.out
                           have c4 : w5.cell? ⟨rb + 1, 4, none⟩ = some (.string k.service) := (HUM1.out.below hb5).key.cell 4
                           have c5 : w5.cell? ⟨rb + 1, 5, none⟩ = some (.string k.name) := (HUM1.out.below hb5).key.cell 5
                           have c6 : w5.cell? ⟨rb + 1, 6, none⟩ = some (.string k.value) := (HUM1.out.below hb5).key.cell 6
                           have f4 := (HUM1.out.below hb5).key.frozen 4
                           have f5 := (HUM1.out.below hb5).key.frozen 5
                           have f6 := (HUM1.out.below hb5).key.frozen 6)
              go_roundw
              case rel => exact ⟨offA Ab c i, c - i, j + 1, bb.drop i, _, t, by rw [List.length_drop, HLN.out], rfl, by go_num, by omega, (by first | exact ((HUM1.out.below hb5).s3 s).drop (by rw [HLN.out]; exact hcc) | exact ((HUM1.out.below hb5).s4 s).drop (by rw [HLN.out]; exact hcc) | exact ((HUM1.out.below hb5).s5 s).drop (by rw [HLN.out]; exact hcc)), by rw [List.length_drop, HLN.out]; omega, hby.drop i, by rw [List.length_drop, HLN.out]; omega, HKN.out, HG2.out⟩
              case measure => simp [intOf]; omega
      · have hlt' : decide ((j : Int) < (m : Int)) = false := by simp; omega
        have HE0 : Hid (r = unpEnd (.inl (k, t, bb))) := by
          rw [HR3.out, ← HGO.out, List.drop_eq_nil_of_le (by rw [HM.out]; omega), unpGo]
          exact Lib.hid rfl
        have hres := um.res
        have k0' : wr.cell? ⟨rb + 1, 0, none⟩ = some (.int .i64 k.kind) := um.key.cell 0
        have k7 : wr.cell? ⟨rb + 1, 7, none⟩ = some (.int .u64 k.number) := um.key.cell 7
        have k8 : wr.cell? ⟨rb + 1, 8, none⟩ = some (.int .i64 k.start) := um.key.cell 8
        have k8f : wr.frozen? ⟨rb + 1, 8, none⟩ = false := um.key.frozen 8
        have HUM := Lib.hid um
        have hcs : (ln ≠ 0 ∧ r = (zeroKy, 4)) ∨ (ln = 0 ∧ 4611686018427387903 < t ∧ r = (zeroKy, 4)) ∨ (ln = 0 ∧ t ≤ 4611686018427387903 ∧ k.kind = 100 ∧ 4611686018427387903 < k.number ∧ r = (zeroKy, 4)) ∨
            (ln = 0 ∧ t ≤ 4611686018427387903 ∧ (k.kind = 100 ∧ k.number ≤ 4611686018427387903) ∧ r = if kyChk { k with start := t } ≠ 0 then (zeroKy, kyChk { k with start := t }) else ({ k with start := t }, 0)) ∨
            (ln = 0 ∧ t ≤ 4611686018427387903 ∧ k.kind ≠ 100 ∧ r = if kyChk { k with start := t } ≠ 0 then (zeroKy, kyChk { k with start := t }) else ({ k with start := t }, 0)) := by
          have h := HE0.out
          unfold unpEnd at h
          simp only at h
          have hbe : bb ≠ [] ↔ ln ≠ 0 := by
            have := HLN.out
            constructor
            · rintro h rfl; exact h (List.eq_nil_of_length_eq_zero (by omega))
            · rintro h rfl; simp at this; omega
          by_cases c1 : ln = 0
          · by_cases c2 : 4611686018427387903 < t
            · rw [if_pos (.inr (.inl c2))] at h
              exact .inr (.inl ⟨c1, c2, h⟩)
            · by_cases c3 : k.kind = 100
              · by_cases c4 : 4611686018427387903 < k.number
                · rw [if_pos (.inr (.inr ⟨c3, c4⟩))] at h
                  exact .inr (.inr (.inl ⟨c1, by omega, c3, c4, h⟩))
                · rw [if_neg (by rintro (h1 | h1 | h1); exact hbe.1 h1 c1; exact c2 h1; exact c4 h1.2)] at h
                  exact .inr (.inr (.inr (.inl ⟨c1, by omega, ⟨c3, by omega⟩, h⟩)))
              · rw [if_neg (by rintro (h1 | h1 | h1); exact hbe.1 h1 c1; exact c2 h1; exact c3 h1.1)] at h
                exact .inr (.inr (.inr (.inr ⟨c1, by omega, c3, h⟩)))
          · rw [if_pos (.inl (hbe.2 c1))] at h
            exact .inl ⟨c1, h⟩
        clear um
        rcases hcs with ⟨c1, he⟩ | ⟨c1, c2, he⟩ | ⟨c1, c2, c3, c4, he⟩ | ⟨c1, c2, c3, he⟩ | ⟨c1, c2, c3, he⟩
        case inl =>
          have HE := Lib.hid he
          have d1 : decide ((0 : Int) < (ln : Int)) = true := by simp; omega
          clear he
          go_upto_region 39 with fail
          go_wp2_with (refine wpList_store_row rfl 26 (.tmp 2) (.tmp 134) rfl rb zkyC rfl rfl 26 zkyC hres (by rfl) rfl zkyC_one ?_)
          refine bodyPost_ret (results_cell_row_tmpK rfl _ _ rb 26 zkyC _ rfl (hres.rowK zkyC) Try.underlying26 rfl (by rfl)) rfl ?_
          rw [HE.out]
          exact ⟨rfl, below_rowK HUM.out.bel HUM.out.o1 _⟩
        case inr.inl =>
          subst c1
          have HE := Lib.hid he
          have d2 : decide ((4611686018427387903 : Int) < (t : Int)) = true := by simp; omega
          clear he
          go_upto_region 39 with fail
          go_wp2_with (refine wpList_store_row rfl 26 (.tmp 2) (.tmp 134) rfl rb zkyC rfl rfl 26 zkyC hres (by rfl) rfl zkyC_one ?_)
          refine bodyPost_ret (results_cell_row_tmpK rfl _ _ rb 26 zkyC _ rfl (hres.rowK zkyC) Try.underlying26 rfl (by rfl)) rfl ?_
          rw [HE.out]
          exact ⟨rfl, below_rowK HUM.out.bel HUM.out.o1 _⟩
        case inr.inr.inl =>
          subst c1
          have HE := Lib.hid he
          have d2 : decide ((4611686018427387903 : Int) < (t : Int)) = false := by simp; omega
          have d3 : (k.kind == 100) = true := by rw [beq_iff_eq]; exact c3
          have d4 : decide ((4611686018427387903 : Int) < (k.number : Int)) = true := by simp; omega
          clear he c3
          go_upto_region 39 with fail
          go_wp2_with (refine wpList_store_row rfl 26 (.tmp 2) (.tmp 134) rfl rb zkyC rfl rfl 26 zkyC hres (by rfl) rfl zkyC_one ?_)
          refine bodyPost_ret (results_cell_row_tmpK rfl _ _ rb 26 zkyC _ rfl (hres.rowK zkyC) Try.underlying26 rfl (by rfl)) rfl ?_
          rw [HE.out]
          exact ⟨rfl, below_rowK HUM.out.bel HUM.out.o1 _⟩
        all_goals
          subst c1
          have d2 : decide ((4611686018427387903 : Int) < (t : Int)) = false := by simp; omega
          first
            | (have d3 : (k.kind == 100) = true := by rw [beq_iff_eq]; exact c3.1
               have d4 : decide ((4611686018427387903 : Int) < (k.number : Int)) = false := by have := c3.2; simp; omega)
            | (have d3 : (k.kind == 100) = false := by rw [beq_eq_false_iff_ne]; exact c3)
          obtain ⟨k', hk'⟩ : ∃ k' : Ky, { k with start := (t : Int) } = k' := ⟨_, rfl⟩
          rw [hk'] at he
          have um2 : RnM w (wr.setCell ⟨rb + 1, 8, none⟩ (.int .i64 t)) rb (rb + 1) pb A (l.map ren) Ab bb k' := by rw [← hk']; exact HUM.out.setKey 8 _ rfl
          obtain ⟨W5, hW5⟩ : ∃ W5, wr.setCell ⟨rb + 1, 8, none⟩ (.int .i64 t) = W5 := ⟨_, rfl⟩
          rw [hW5] at um2
          have HW5 := Lib.hid hW5
          have la := loadK_ky um2.key
          obtain ⟨q, hq'⟩ : ∃ q, kyChk k' = q := ⟨_, rfl⟩
          have cc := rCheck k' W5
          rw [hq'] at he cc
          have CC := Lib.hid cc
          have HE := Lib.hid he
          have HUM2 := Lib.hid um2
          clear c3 he hk' hW5 hq' cc um2
          go_upto_region 41 with fail
          rw [HW5.out]
          by_cases hq0 : q = 0
          · subst hq0
            go_upto_region 44 with (go_at_call 17; refine CC.out.mono ?_; rintro e w6 ⟨rfl, hb6⟩; have u6 := HUM2.out.below hb6; have la6 := loadK_ky u6.key; have r6 := u6.res)
            go_wp2_with (refine wpList_store_row rfl 26 (.tmp 2) (.tmp 144) rfl rb (kyC k') rfl rfl 26 zkyC r6 (by rfl) rfl (kyC_one k') ?_)
            refine bodyPost_ret (results_cell_row_tmpK rfl _ _ rb 26 (kyC k') _ rfl (r6.rowK (kyC k')) Try.underlying26 rfl (by rfl)) rfl ?_
            rw [HE.out]
            exact ⟨rfl, below_rowK u6.bel u6.o1 _⟩
          · have d5 : ((q : Int) != 0) = true := by rw [bne_iff_ne]; omega
            have HQ0 := Lib.hid hq0
            clear hq0
            go_upto_region 43 with (go_at_call 17; refine CC.out.mono ?_; rintro e w6 ⟨rfl, hb6⟩; have u6 := HUM2.out.below hb6; have la6 := loadK_ky u6.key; have r6 := u6.res)
            go_wp2_with (refine wpList_store_row rfl 26 (.tmp 2) (.tmp 142) rfl rb zkyC rfl rfl 26 zkyC r6 (by rfl) rfl zkyC_one ?_)
            refine bodyPost_ret (results_cell_row_tmpK rfl _ _ rb 26 zkyC _ rfl (r6.rowK zkyC) Try.underlying26 rfl (by rfl)) rfl ?_
            rw [HE.out, if_pos HQ0.out]
            exact ⟨rfl, below_rowK u6.bel u6.o1 _⟩
end Go.Proofs.Ytlamebbolioljaa
