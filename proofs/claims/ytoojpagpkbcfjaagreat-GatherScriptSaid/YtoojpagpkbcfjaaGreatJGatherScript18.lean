/- Texts of the proof of GatherScriptSaid, joined: RgB RgC RgD RgE GbJ RgF RgG RgH. -/
import Derived.Test.YtoojpagpkbcfjaaGreatJGatherScript17
import Derived.Test.YtoojpagpkbcfjaaGreatJGatherScript14
/- Layer 20, the document's side: none, less, Ever, Late, Now, CheckSetup, New. -/
namespace Go.Proofs.YtoojpagpkbcfjaaGreat
open Go.RowKit
attribute [local go_sem ↓] loadTr_shut
section
variable {base F : Nat} {w w' : World} {K K' Z Z' : Nat → Prop} {G : GSt} {m : RM}
set_option maxRecDepth 100000 in
theorem rgNone (h : Rga base w K Z F G m) : Calls Tryz.prog 37 #[ptV F] w fun e w' => e = .returned (.bool false) ∧ w = w' := by
  have c0 : w.cell? ⟨F, 0, none⟩ = some (.bool true) := (h.blk.cell 0).trans rfl
  clear h
  go_enter Tryz.func37, Tryz.ntmps37
  go_wp2_with fail
  go_ret
  exact ⟨rfl, rfl⟩
set_option maxRecDepth 100000 in
set_option maxHeartbeats 1000000 in
theorem rgLess (a b : Tr) (w : World) : Calls Tryz.prog 44 #[trV a, trV b] w fun e w' => e = .returned (.bool (Tr.lt a b)) ∧ Below w.heap.size w w' := by
  obtain ⟨ah, al⟩ := a
  obtain ⟨bh, bl⟩ := b
  obtain ⟨q, hq⟩ : ∃ q, Tr.lt ⟨ah, al⟩ ⟨bh, bl⟩ = q := ⟨_, rfl⟩
  have hq' := hq
  simp only [Tr.lt] at hq'
  rw [hq]
  have HQ := Lib.hid hq'
  have HB : Hid (Below w.heap.size w ((w.alloc (.cells #[.int .u64 (ah : Int), .int .u64 (al : Int)] 37)).alloc (.cells #[.int .u64 (bh : Int), .int .u64 (bl : Int)] 37))) := Lib.hid (((Below.refl _ w).alloc (Nat.le_refl _) _).alloc (by simp) _)
  clear hq hq'
  by_cases h1 : ah < bh
  · have h1' : (ah : Int) < (bh : Int) := by omega
    have hq1 : q = true := by rw [← HQ.out]; simp [h1]
    subst hq1
    go_enter Tryz.func44, Tryz.ntmps44
    go_wp2_with fail
    go_ret
    exact ⟨rfl, HB.out⟩
  · have h1' : ¬(ah : Int) < (bh : Int) := by omega
    by_cases h2 : ah = bh
    · have h2' : ((ah : Int) == (bh : Int)) = true := by rw [h2]; simp
      by_cases h3 : al < bl
      · have h3' : (al : Int) < (bl : Int) := by omega
        have hq1 : q = true := by rw [← HQ.out]; simp [h2, h3]
        subst hq1
        clear h2
        go_enter Tryz.func44, Tryz.ntmps44
        go_wp2_with fail
        go_ret
        exact ⟨rfl, HB.out⟩
      · have h3' : ¬(al : Int) < (bl : Int) := by omega
        have hq1 : q = false := by rw [← HQ.out]; simp [h1, h3]
        subst hq1
        clear h2
        go_enter Tryz.func44, Tryz.ntmps44
        go_wp2_with fail
        go_ret
        exact ⟨rfl, HB.out⟩
    · have h2' : ((ah : Int) == (bh : Int)) = false := by rw [beq_eq_false_iff_ne]; omega
      have hq1 : q = false := by rw [← HQ.out]; simp [h1, h2]
      subst hq1
      go_enter Tryz.func44, Tryz.ntmps44
      go_wp2_with fail
      go_ret
      exact ⟨rfl, HB.out⟩
theorem mem_take_succ {α : Type} {l : List α} {j : Nat} {x t : α} (hx : l[j]? = some x) : t ∈ l.take (j + 1) ↔ t ∈ l.take j ∨ t = x := by
  rw [List.take_add_one, hx]
  simp
set_option maxRecDepth 100000 in
set_option maxHeartbeats 4000000 in
theorem rgEver (h : Rga base w K Z F G m) (t : Tr) (hN : G.all.length ≤ 1000000) : Calls Tryz.prog 24 #[ptV F, trV t] w fun e w' => e = .returned (.bool (decide (t ∈ G.all))) ∧ Below w.heap.size w w' := by
  obtain ⟨q, hq⟩ : ∃ q, decide (t ∈ G.all) = q := ⟨_, rfl⟩
  rw [hq]
  have hb1 : Below w.heap.size w (w.alloc (.cells (trC t) 37)) := (Below.refl _ w).alloc (Nat.le_refl _) _
  have h1 := h.below hb1
  have b1 := Bk.new w 37 (trC t)
  obtain ⟨w1, e1⟩ : ∃ w1, w.alloc (.cells (trC t) 37) = w1 := ⟨_, rfl⟩
  obtain ⟨r, hr⟩ : ∃ r, w.heap.size = r := ⟨_, rfl⟩
  rw [e1] at h1 b1 hb1
  rw [hr] at b1
  have CN := Lib.hid (rgNone h1)
  obtain ⟨A, c, hv, -, -⟩ := own_form h1.all
  obtain ⟨n, hn⟩ : ∃ n, G.all.length = n := ⟨_, rfl⟩
  rw [hn] at hv hN
  have H1 := Lib.hid h1
  have B1 := Lib.hid b1
  have HB := Lib.hid hb1
  have HQ := Lib.hid hq
  have HV := Lib.hid (And.intro hv hn)
  have E1 := Lib.hid e1
  have HR := Lib.hid hr
  clear h h1 b1 hb1 hq hv hn e1 hr
  go_enter Tryz.func24, Tryz.ntmps24
  go_wp2_with fail
  rw [E1.out, HR.out]
  refine CN.out.mono ?_
  rintro e w2 ⟨rfl, rfl⟩
  go_wp2_with fail
  go_loopw [5] (fun i_ wr => ∃ j : Nat, j ≤ n ∧ i_ = .int .i64 j ∧ Hid (t ∉ G.all.take j) ∧ Hid (Below w1.heap.size w1 wr)) (fun i_ _ => n - (intOf i_).toNat)
  case atStart => exact ⟨0, Nat.zero_le _, rfl, Lib.hid (by simp), Lib.hid (Below.refl _ _)⟩
  case round =>
    obtain ⟨j, hj, rfl, HT, HBR⟩ := hrel
    have hbd : Below w1.heap.size w1 wr.drew := below_drewN HBR.out 1
    have hd := H1.out.below hbd
    have c6 : wr.drew.cell? ⟨F, 6, none⟩ = some (.slice A n c) := by rw [hd.blk.cell 6, ← HV.out.1]; rfl
    have c6' : wr.cell? ⟨F, 6, none⟩ = some (.slice A n c) := c6
    by_cases hlt : j < n
    · have hlt' : (j : Int) < (n : Int) := by omega
      obtain ⟨x, hx⟩ : ∃ x, G.all[j]? = some x := ⟨_, List.getElem?_eq_getElem (by rw [HV.out.2]; exact hlt)⟩
      have hav := hd.all
      rw [show m.av = _ from HV.out.1, HV.out.2] at hav
      obtain ⟨b, o, rfl, -, hc⟩ := flatR_at trL_length (by omega) (Rd.of_own hav) hx
      have ld1 : (loadK 37 ⟨b, o + j * 2, none⟩).run Tryz.prog wr.drew = .ok (trV x) wr.drew :=
        run_loadVar_cells wr.drew _ _ ⟨b, o + j * 2, none⟩ (trL x) Tryz.underlying37 rfl (by rfl) (fun k v hv => by
          rw [Addr.add_lit, Nat.add_assoc, hc k (by have := (List.getElem?_eq_some_iff.1 hv).1; simpa using this)]
          exact hv)
      have ld2 := loadK_trB (w := wr.drew) (B1.out.below hbd B1.out.lt)
      have HBD := Lib.hid hbd
      clear hc hav hd hbd
      by_cases hxt : x = t
      · have e1 : ((x.hi : Int) == (t.hi : Int)) = true := by rw [hxt]; simp
        have e2 : ((x.lo : Int) == (t.lo : Int)) = true := by rw [hxt]; simp
        have hq1 : q = true := by
          rw [← HQ.out, decide_eq_true_iff, ← hxt]
          exact List.mem_of_getElem? hx
        have HQ1 := Lib.hid hq1
        clear hxt hx hq1
        go_wp2_with fail
        go_region_held3 (fun w' => w'.cell? ⟨F, 6, none⟩ = some (.slice (some ⟨b, o, none⟩) n c) ∧ (loadK 37 ⟨b, o + j * 2, none⟩).run Tryz.prog w' = .ok (trV x) w' ∧ (loadK 37 ⟨r, 0, none⟩).run Tryz.prog w' = .ok (trV t) w') (exact ⟨c6, ld1, ld2⟩) (fail)
        clear ld1 ld2 c6 c6'
        go_wp2_with fail
        go_ret
        exact ⟨by rw [HQ1.out]; rfl, HB.out.trans (HBD.out.mono HB.out.size)⟩
      · have hT2 : t ∉ G.all.take (j + 1) := fun e => ((mem_take_succ hx).1 e).elim HT.out fun e => hxt e.symm
        have HT2 := Lib.hid hT2
        by_cases hh : x.hi = t.hi
        · have hl : x.lo ≠ t.lo := fun e => hxt (by cases x; cases t; simp at hh e; rw [hh, e])
          have e1 : ((x.hi : Int) == (t.hi : Int)) = true := by rw [hh]; simp
          have e2 : ((x.lo : Int) == (t.lo : Int)) = false := by rw [beq_eq_false_iff_ne]; omega
          clear hh hl hxt hx hT2
          go_wp2_with fail
          go_region_held3 (fun w' => w'.cell? ⟨F, 6, none⟩ = some (.slice (some ⟨b, o, none⟩) n c) ∧ (loadK 37 ⟨b, o + j * 2, none⟩).run Tryz.prog w' = .ok (trV x) w' ∧ (loadK 37 ⟨r, 0, none⟩).run Tryz.prog w' = .ok (trV t) w') (exact ⟨c6, ld1, ld2⟩) (fail)
          clear ld1 ld2 c6 c6'
          go_wp2_with fail
          exact ⟨⟨j + 1, by omega, by go_num, HT2, HBD⟩, by simp only [intOf]; omega⟩
        · have e1 : ((x.hi : Int) == (t.hi : Int)) = false := by rw [beq_eq_false_iff_ne]; omega
          clear hh hxt hx hT2
          go_wp2_with fail
          go_region_held3 (fun w' => w'.cell? ⟨F, 6, none⟩ = some (.slice (some ⟨b, o, none⟩) n c) ∧ (loadK 37 ⟨b, o + j * 2, none⟩).run Tryz.prog w' = .ok (trV x) w' ∧ (loadK 37 ⟨r, 0, none⟩).run Tryz.prog w' = .ok (trV t) w') (exact ⟨c6, ld1, ld2⟩) (fail)
          clear ld1 ld2 c6 c6'
          go_wp2_with fail
          exact ⟨⟨j + 1, by omega, by go_num, HT2, HBD⟩, by simp only [intOf]; omega⟩
    · have hlt' : ¬(j : Int) < (n : Int) := by omega
      have hq1 : q = false := by
        rw [← HQ.out, decide_eq_false_iff_not]
        have h2 := HT.out
        rwa [List.take_of_length_le (by rw [HV.out.2]; omega)] at h2
      have HQ1 := Lib.hid hq1
      clear hq1 hd hbd c6
      go_wp2_with fail
      go_ret
      exact ⟨by rw [HQ1.out]; rfl, HB.out.trans (HBR.out.mono HB.out.size)⟩
set_option maxRecDepth 100000 in
theorem rgLate (h : Rga base w K Z F G m) : Calls Tryz.prog 26 #[ptV F] w fun e w' => e = .returned (.int .i64 (G.late : Nat)) ∧ Below w.heap.size w w' := by
  have CN := Lib.hid (rgNone h)
  have c7 : w.cell? ⟨F, 7, none⟩ = some (.int .i64 (G.late : Nat)) := (h.blk.cell 7).trans rfl
  clear h
  go_enter Tryz.func26, Tryz.ntmps26
  go_wp2_with fail
  refine CN.out.mono ?_
  rintro e w2 ⟨rfl, rfl⟩
  go_wp2_with fail
  go_ret
  exact ⟨rfl, Below.refl _ _⟩
set_option maxRecDepth 100000 in
theorem rgNow (h : Rga base w K Z F G m) : Calls Tryz.prog 28 #[ptV F] w fun e w' => e = .returned (.int .i64 G.now) ∧ Below w.heap.size w w' := by
  have CN := Lib.hid (rgNone h)
  have c3 : w.cell? ⟨F, 3, none⟩ = some (.int .i64 G.now) := (h.blk.cell 3).trans rfl
  clear h
  go_enter Tryz.func28, Tryz.ntmps28
  go_wp2_with fail
  refine CN.out.mono ?_
  rintro e w2 ⟨rfl, rfl⟩
  go_wp2_with fail
  go_ret
  exact ⟨rfl, Below.refl _ _⟩
end
set_option maxRecDepth 100000 in
set_option maxHeartbeats 1000000 in
theorem rgSetup (w : World) (win cap : Int) : Calls Tryz.prog 9 #[.agg #[.int .i64 win, .int .i64 cap]] w fun e w' => e = .returned (.int .i64 (gaChk win cap : Nat)) ∧ Below w.heap.size w w' := by
  have HB : Hid (Below w.heap.size w (w.alloc (.cells #[.int .i64 win, .int .i64 cap] 23))) := Lib.hid ((Below.refl _ w).alloc (Nat.le_refl _) _)
  by_cases h1 : win < 1
  · have hc : gaChk win cap = 2 := if_pos (.inl h1)
    rw [hc]
    go_enter Tryz.func9, Tryz.ntmps9
    go_wp2_with fail
    go_ret
    exact ⟨rfl, HB.out⟩
  · by_cases h2 : 1099511627776 < win
    · have hc : gaChk win cap = 2 := if_pos (.inr (.inl h2))
      rw [hc]
      go_enter Tryz.func9, Tryz.ntmps9
      go_wp2_with fail
      go_ret
      exact ⟨rfl, HB.out⟩
    · by_cases h3 : cap < 1
      · have hc : gaChk win cap = 2 := if_pos (.inr (.inr (.inl h3)))
        rw [hc]
        go_enter Tryz.func9, Tryz.ntmps9
        go_wp2_with fail
        go_ret
        exact ⟨rfl, HB.out⟩
      · by_cases h4 : 32 < cap
        · have hc : gaChk win cap = 2 := if_pos (.inr (.inr (.inr h4)))
          rw [hc]
          go_enter Tryz.func9, Tryz.ntmps9
          go_wp2_with fail
          go_ret
          exact ⟨rfl, HB.out⟩
        · have hc : gaChk win cap = 0 := if_neg (by omega)
          rw [hc]
          go_enter Tryz.func9, Tryz.ntmps9
          go_wp2_with fail
          go_ret
          exact ⟨rfl, HB.out⟩
set_option maxRecDepth 100000 in
set_option maxHeartbeats 1000000 in
theorem rgNewBad (w : World) (win cap : Int) (h : gaChk win cap ≠ 0) : Calls Tryz.prog 7 #[.agg #[.int .i64 win, .int .i64 cap]] w fun e w' => e = .returned (.tuple #[.pointer none, .int .i64 (gaChk win cap : Nat)]) ∧ Below w.heap.size w w' := by
  have hb1 : Below w.heap.size w (w.alloc (.cells #[.int .i64 win, .int .i64 cap] 23)) := (Below.refl _ w).alloc (Nat.le_refl _) _
  have CS := Lib.hid (rgSetup (w.alloc (.cells #[.int .i64 win, .int .i64 cap] 23)) win cap)
  obtain ⟨q, hq⟩ : ∃ q : Nat, gaChk win cap = q := ⟨_, rfl⟩
  rw [hq] at h CS
  rw [hq]
  have hq0 : ((q : Int) != 0) = true := by simp; omega
  clear hq
  have HB := Lib.hid hb1
  clear hb1
  go_enter Tryz.func7, Tryz.ntmps7
  go_wp2_with fail
  refine CS.out.mono ?_
  rintro e w2 ⟨rfl, hb2⟩
  go_wp2_with fail
  go_ret2
  exact ⟨rfl, HB.out.trans (hb2.mono (by simp))⟩
set_option maxRecDepth 100000 in
set_option maxHeartbeats 1000000 in
theorem rgNew (w : World) (win cap : Int) (h : gaChk win cap = 0) : Calls Tryz.prog 7 #[.agg #[.int .i64 win, .int .i64 cap]] w fun e w' => ∃ F, e = .returned (.tuple #[ptV F, .int .i64 0]) ∧ (∃ m, Rga w.heap.size w' (fun b => w.heap.size ≤ b ∧ b < w'.heap.size) Kno F (GSt.new win cap) m) ∧ Below w.heap.size w w' := by
  have hb1 : Below w.heap.size w (w.alloc (.cells #[.int .i64 win, .int .i64 cap] 23)) := (Below.refl _ w).alloc (Nat.le_refl _) _
  have b1 := Bk.new w 23 #[.int .i64 win, .int .i64 cap]
  have hs1 : (w.alloc (.cells #[.int .i64 win, .int .i64 cap] 23)).heap.size = w.heap.size + 1 := by simp
  have CS := Lib.hid (rgSetup (w.alloc (.cells #[.int .i64 win, .int .i64 cap] 23)) win cap)
  rw [h] at CS
  obtain ⟨w1, e1⟩ : ∃ w1, w.alloc (.cells #[.int .i64 win, .int .i64 cap] 23) = w1 := ⟨_, rfl⟩
  rw [e1] at hb1 b1 hs1 CS
  have E1 := Lib.hid e1
  have HB := Lib.hid hb1
  have B1 := Lib.hid b1
  have HS1 := Lib.hid hs1
  clear hb1 b1 hs1 e1 h
  go_enter Tryz.func7, Tryz.ntmps7
  go_wp2_with fail
  rw [E1.out]
  refine CS.out.mono ?_
  rintro e w2 ⟨rfl, hb2⟩
  have b2 : Bk w2 w.heap.size 23 #[.int .i64 win, .int .i64 cap] := (hb2.block _ (by have := HS1.out; omega)).trans B1.out
  have k0 : w2.cell? ⟨w.heap.size, 0, none⟩ = some (.int .i64 win) := (b2.cell 0).trans rfl
  have k1 : w2.cell? ⟨w.heap.size, 1, none⟩ = some (.int .i64 cap) := (b2.cell 1).trans rfl
  have hb2' := hb2.size
  have hbw := HB.out.trans (hb2.mono (by have := HS1.out; omega))
  have b5 := Bk.new w2 72 #[.bool true, .int .i64 win, .int .i64 cap, .int .i64 0, .slice none 0 0, .slice none 0 0, .slice none 0 0, .int .i64 0]
  have f5 := hbw.alloc hbw.size (.cells #[.bool true, .int .i64 win, .int .i64 cap, .int .i64 0, .slice none 0 0, .slice none 0 0, .slice none 0 0, .int .i64 0] 72)
  obtain ⟨w5, e5⟩ : ∃ w5, w2.alloc (.cells #[.bool true, .int .i64 win, .int .i64 cap, .int .i64 0, .slice none 0 0, .slice none 0 0, .slice none 0 0, .int .i64 0] 72) = w5 := ⟨_, rfl⟩
  have s5 : w5.heap.size = w2.heap.size + 1 := by rw [← e5]; simp
  rw [e5] at f5 b5
  have V : Rga w.heap.size w5 (fun b => w.heap.size ≤ b ∧ b < w5.heap.size) Kno w2.heap.size (GSt.new win cap) ⟨.slice none 0 0, [], .slice none 0 0, [], .slice none 0 0⟩ := by
    have hq := hbw.size
    exact { blk := b5, o := World.ownsRow_nil w5 _ _ 4, oE := rfl, row := (fun x hx => by cases hx), el := (fun x hx => by cases hx), inj := (fun x hx => by cases hx), cls := .inl ⟨rfl, rfl⟩, clsE := rfl, clz := (fun e he => by cases he), all := World.ownsRow_nil w5 _ _ 2,
            kF := ⟨by omega, by omega⟩, kO := (fun g e => by cases e), kR := (fun x hx => by cases hx), kC := (fun g e => by cases e), kA := (fun g e => by cases e), kz := (fun b _ e => e), lo := (fun b e => e), loZ := (fun b e => e.elim) }
  have HV := Lib.hid V
  have HF := Lib.hid f5
  have E5 := Lib.hid e5
  clear V f5 e5 b5 hbw hb2 b2 hb2' s5
  go_wp2_with fail
  go_ret2
  rw [E5.out]
  exact ⟨w2.heap.size, rfl, ⟨_, HV.out⟩, HF.out⟩
end Go.Proofs.YtoojpagpkbcfjaaGreat


/- Layer 20, the document's side: Next, Closed, Open. -/
namespace Go.Proofs.YtoojpagpkbcfjaaGreat
open Go.RowKit
attribute [local go_sem ↓] loadTr_shut storeKG_shut loadGa_shut appKG_shut
section
variable {base F : Nat} {w w' : World} {K K' Z Z' : Nat → Prop} {G : GSt} {m : RM}
theorem Rga.cutCl (h : Rga base w K Z F G m) {v' : Value} {ce' : List ClE} {cl' : List (Tr × List Sp)} (hf : FrK w w' (Kis F)) (hB : Bk w' F 72 ((rgC G m).setIfInBounds 5 v')) (hQ : ClQ w' base v' ce') (hsub : ∀ e ∈ ce', e ∈ m.ce) (hcl : clsOf ce' = cl') (ho : v'.ownBlock = m.cv.ownBlock) :
    Rga base w' K Z F { G with cl := cl' } { m with cv := v', ce := ce' } := by
  have hbk : ∀ {b : Nat} {t : TypeId} {cs : Array Value}, Bk w b t cs → t ≠ 72 → w'.heap[b]? = w.heap[b]? := fun {b t cs} hb h1 => hf.block b hb.lt fun e => ne_of_type hb h.blk h1 e
  have hzz : ∀ b, Z b → w'.heap[b]? = w.heap[b]? := fun b hb => hf.block b (h.loZ b hb) fun e => h.kz F h.kF ((show b = F from e) ▸ hb)
  exact { blk := by
            have e1 : rgC { G with cl := cl' } { m with cv := v', ce := ce' } = (rgC G m).setIfInBounds 5 v' := by simp [rgC]
            rw [e1]
            exact hB
          o := own_of h.o fun g e => by
            obtain ⟨cur, hcur⟩ := own_bk h.o e
            exact hbk hcur (by decide)
          oE := h.oE
          row := fun x hx => own_of (h.row x hx) fun g e => by
            obtain ⟨cur, hcur⟩ := own_bk (h.row x hx) e
            exact hbk hcur (by decide)
          el := fun x hx e he => (h.el x hx e he).keep hzz hf.size fun _ e => e
          inj := h.inj
          cls := hQ
          clsE := hcl
          clz := fun x hx => (h.clz x (hsub x hx)).keep hzz hf.size fun _ e => e
          all := own_of h.all fun g e => by
            obtain ⟨cur, hcur⟩ := own_bk h.all e
            exact hbk hcur (by decide)
          kF := h.kF
          kO := h.kO
          kR := h.kR
          kC := fun g e => h.kC g (by rw [← ho]; exact e)
          kA := h.kA
          kz := h.kz
          lo := fun b e => ⟨(h.lo b e).1, Nat.lt_of_lt_of_le (h.lo b e).2 hf.size⟩
          loZ := fun b e => Nat.lt_of_lt_of_le (h.loZ b e) hf.size }
/-- What Next comes to. -/
def RNextP (base : Nat) (w : World) (K Z : Nat → Prop) (F : Nat) (G : GSt) (m : RM) (e : Ending) (w' : World) : Prop :=
  (match m.ce with
    | [] => e = .returned (.tuple #[.agg #[.int .u64 0, .int .u64 0, .slice none 0 0], .int .i64 6]) ∧ Rga base w' K Z F G m
    | c :: ce => e = .returned (.tuple #[clV c, .int .i64 0]) ∧ ClZ w' Z c ∧ ∃ cv', Rga base w' K Z F { G with cl := G.cl.tail } { m with cv := cv', ce := ce }) ∧ FrK w w' K
set_option maxRecDepth 100000 in
set_option maxHeartbeats 4000000 in
theorem rgNext (h : Rga base w K Z F G m) (hce : m.ce.length ≤ 1000000) : Calls Tryz.prog 14 #[ptV F] w (RNextP base w K Z F G m) := by
  have h1 := h.below ((Below.refl _ w).alloc (Nat.le_refl _) (.cells #[.int .u64 0, .int .u64 0, .slice none 0 0] 47))
  have b1 := Bk.new w 47 #[.int .u64 0, .int .u64 0, .slice none 0 0]
  have f1 := (FrK.refl w K).alloc (.cells #[.int .u64 0, .int .u64 0, .slice none 0 0] 47)
  have hrr : ∀ b, (K b ∨ Z b) → b ≠ w.heap.size := fun b hb => by
    rcases hb with hb | hb
    · have := (h.lo b hb).2; omega
    · have := h.loZ b hb; omega
  obtain ⟨r, hr⟩ : ∃ r, w.heap.size = r := ⟨_, rfl⟩
  rw [hr] at b1 hrr
  obtain ⟨w1, e1⟩ : ∃ w1, w.alloc (.cells #[.int .u64 0, .int .u64 0, .slice none 0 0] 47) = w1 := ⟨_, rfl⟩
  rw [e1] at h1 b1 f1
  have hs1 : w1.heap.size = r + 1 := by rw [← e1, ← hr]; simp
  have CN := Lib.hid (rgNone h1)
  have H1 := Lib.hid h1
  have B1 := Lib.hid b1
  have F1 := Lib.hid f1
  have E1 := Lib.hid e1
  have HR := Lib.hid hr
  have HS1 := Lib.hid hs1
  have HRR := Lib.hid hrr
  clear h h1 b1 f1 e1 hr hs1 hrr
  cases hce' : m.ce with
  | nil =>
    have hv : m.cv = .slice none 0 0 ∨ ∃ A c, m.cv = .slice A 0 c := by
      rcases H1.out.cls with ⟨h2, -⟩ | ⟨g, off, cap, cur, h2, -⟩
      · exact .inl h2
      · rw [hce'] at h2
        exact .inr ⟨_, _, h2⟩
    obtain ⟨A, c, hv⟩ : ∃ A c, m.cv = .slice A 0 c := by
      rcases hv with hv | hv
      · exact ⟨_, _, hv⟩
      · exact hv
    have c6 : w1.cell? ⟨F, 5, none⟩ = some (.slice A 0 c) := by rw [H1.out.blk.cell 5, ← hv]; rfl
    obtain ⟨w4, s4, k4, f4⟩ := gaBox (⟨⟨0, 0⟩, [], none, 0⟩ : ClE) B1.out rfl
    have s4' : (storeKG 47 ⟨r, 0, none⟩ (.agg #[.int .u64 0, .int .u64 0, .slice none 0 0])).run Tryz.prog w1 = .ok () w4 := s4
    have HG4 := Lib.hid (H1.out.keep f4 (fun b hb e => HRR.out b (.inl hb) e) (fun b hb e => HRR.out b (.inr hb) e))
    have HF4 := Lib.hid (F1.out.trans f4 fun b hb e => absurd (show b = r from e) (by have := HR.out; omega))
    have HC := Lib.hid hce'
    have HK4 := Lib.hid k4
    clear s4 k4 f4 hv hce'
    go_enter Tryz.func14, Tryz.ntmps14
    go_wp2_with fail
    rw [E1.out]
    refine CN.out.mono ?_
    rintro e w2 ⟨rfl, rfl⟩
    rw [HR.out]
    go_wp2_with fail
    refine bodyPost_ret (resCellTmp rfl _ _ r 47 (clC (⟨⟨0, 0⟩, [], none, 0⟩ : ClE)).toArray _ rfl HK4.out Tryz.underlying47 rfl (by rfl)) rfl ?_
    unfold RNextP
    rw [HC.out]
    exact ⟨⟨rfl, HG4.out⟩, HF4.out⟩
  | cons c ce =>
    have hq := H1.out.cls
    rw [hce'] at hq hce
    obtain ⟨g, off, cap, hv, hcap, hcells, hcut, hown⟩ := ClQ.cut hq
    obtain ⟨n, hn⟩ : ∃ n, ce.length = n := ⟨_, rfl⟩
    rw [List.length_cons, hn] at hce
    rw [hn] at hv hcap hcut hown
    have c6 : w1.cell? ⟨F, 5, none⟩ = some (.slice (some ⟨g, off, none⟩) (n + 1) cap) := by rw [H1.out.blk.cell 5, ← hv]; rfl
    have l1 := loadK_gaC hcells
    obtain ⟨w2, s2, k2, f2⟩ := gaBox c (Bk.new w1 47 #[.int .u64 0, .int .u64 0, .slice none 0 0]) rfl
    obtain ⟨r1, hr1⟩ : ∃ r1, w1.heap.size = r1 := ⟨_, rfl⟩
    have hrr1 : ∀ b, b < w1.heap.size → b ≠ r1 := fun b hb => by omega
    rw [hr1] at s2 k2 f2
    have s2' : (storeKG 47 ⟨w1.heap.size, 0, none⟩ (clV c)).run Tryz.prog (w1.alloc (.cells #[.int .u64 0, .int .u64 0, .slice none 0 0] 47)) = .ok () w2 := by
      rw [hr1]
      exact s2
    have h2 := (H1.out.below ((Below.refl _ w1).alloc (Nat.le_refl _) (.cells #[.int .u64 0, .int .u64 0, .slice none 0 0] 47))).keep f2 (fun b hb e => hrr1 b (H1.out.lo b hb).2 e) (fun b hb e => hrr1 b (H1.out.loZ b hb) e)
    have F2 := ((FrK.refl w1 K).alloc (.cells #[.int .u64 0, .int .u64 0, .slice none 0 0] 47)).trans f2 fun b hb e => absurd (show b = r1 from e) (by omega)
    have B2 : Bk w2 r 47 #[.int .u64 0, .int .u64 0, .slice none 0 0] := F2.bk B1.out fun e => HRR.out r (.inl e) rfl
    have c62 : w2.cell? ⟨F, 5, none⟩ = some (.slice (some ⟨g, off, none⟩) (n + 1) cap) := by rw [h2.blk.cell 5, ← hv]; rfl
    have f62 := h2.blk.frozen 5
    have hsl := run_slG w2 (some ⟨g, off, none⟩) (n + 1) cap (by omega)
    obtain ⟨A3, c3, hA3⟩ : ∃ A3 c3, cutA (some ⟨g, off, none⟩) cap 1 3 = A3 ∧ cap - 1 = c3 := ⟨_, _, rfl, rfl⟩
    rw [hA3.1, hA3.2, Nat.add_sub_cancel] at hsl hcut hown
    have hB3 := h2.blk.set 5 (.slice A3 n c3)
    have f3 := FrK.set w2 F 5 (.slice A3 n c3)
    have hq3 : ClQ (w2.setCell ⟨F, 5, none⟩ (.slice A3 n c3)) base (.slice A3 n c3) ce := hcut.keep fun g' e => by
      have e2 := e
      rw [hown] at e2
      obtain ⟨cur, hcur⟩ := ClQ.blk H1.out.cls e2
      have h4 : Bk (w1.alloc (.cells #[.int .u64 0, .int .u64 0, .slice none 0 0] 47)) g' 47 cur := ((FrK.refl w1 Kno).alloc _).bk hcur (fun hk => hk)
      have h5 := f2.bk h4 (hrr1 g' hcur.lt)
      exact (f3.bk h5 (ne_of_type h5 h2.blk (by decide))).trans hcur.symm
    have HG3 := h2.cutCl (f3.mono fun b _ e => e) hB3 hq3 (fun e he => by rw [hce']; exact List.mem_cons_of_mem _ he) rfl (hown.trans (by rw [hv]))
    have k3 : Bk (w2.setCell ⟨F, 5, none⟩ (.slice A3 n c3)) r1 47 (clC c).toArray := f3.bk k2 (ne_of_type k2 h2.blk (by decide))
    have B3 : Bk (w2.setCell ⟨F, 5, none⟩ (.slice A3 n c3)) r 47 #[.int .u64 0, .int .u64 0, .slice none 0 0] := f3.bk B2 (ne_of_type B2 h2.blk (by decide))
    have l3 := loadK_gaB k3
    obtain ⟨w5, s5, k5, f5⟩ := gaBox c B3 rfl
    have HK5 := Lib.hid k5
    have HG5 := Lib.hid (HG3.keep f5 (fun b hb e => HRR.out b (.inl hb) e) (fun b hb e => HRR.out b (.inr hb) e))
    have HF5 := Lib.hid (((F1.out.trans F2 fun _ _ e => e).trans (f3.mono fun b _ e => (show b = F from e) ▸ H1.out.kF) fun _ _ e => e).trans f5 fun b hb e => absurd (show b = r from e) (by have := HR.out; omega))
    have F15 : FrK w1 w5 (fun b => K b ∨ b = r) := ((F2.trans (f3.mono fun b _ e => (show b = F from e) ▸ H1.out.kF) fun _ _ e => e).mono fun _ _ e => Or.inl e).trans f5 fun b _ e => .inr e
    have HZ5 := Lib.hid ((H1.out.clz c (by rw [hce']; exact List.mem_cons_self ..)).keep (Z' := Z) (w' := w5) (fun b hb => F15.block b (H1.out.loZ b hb) fun e => e.elim (fun e => H1.out.kz b e hb) (fun e => HRR.out b (.inr hb) e)) F15.size fun _ e => e)
    have HC := Lib.hid hce'
    have HT := Lib.hid (And.intro H1.out.clsE hn)
    clear F15 k5 HG3 f5 k3 B3 f3 hq3 hB3 F2 h2 f2 k2 B2 hown hcut hq hcells hv hce' hrr1 hcap
    go_enter Tryz.func14, Tryz.ntmps14
    go_wp2_with fail
    rw [E1.out]
    refine CN.out.mono ?_
    rintro e w2 ⟨rfl, rfl⟩
    rw [HR.out]
    go_wp2_with fail
    refine bodyPost_ret (resCellTmp rfl _ _ r 47 (clC c).toArray _ rfl HK5.out Tryz.underlying47 rfl (by rfl)) rfl ?_
    unfold RNextP
    rw [HC.out]
    refine ⟨⟨rfl, HZ5.out, .slice A3 n c3, ?_⟩, HF5.out⟩
    have e1 : G.cl.tail = clsOf ce := by rw [← HT.out.1, HC.out]; rfl
    rw [e1]
    exact HG5.out
set_option maxRecDepth 100000 in
set_option maxHeartbeats 2000000 in
theorem rgClosed (h : Rga base w K Z F G m) (hn : G.cl.length ≤ 1000000) : Calls Tryz.prog 20 #[ptV F] w (TrsP w (G.cl.map (·.1))) := by
  have CN := Lib.hid (rgNone h)
  have hcl : G.cl.map (·.1) = m.ce.map (·.t) := by rw [← h.clsE]; simp [clsOf]
  have hl : m.ce.length = G.cl.length := by rw [← h.clsE]; simp [clsOf]
  obtain ⟨n, hnn⟩ : ∃ n, m.ce.length = n := ⟨_, rfl⟩
  obtain ⟨A, c, hv, hA⟩ : ∃ A c, m.cv = .slice A n c ∧ (0 < n → ∃ g off, A = some ⟨g, off, none⟩ ∧ g < w.heap.size ∧ ∀ j u, (flatR clC m.ce)[j]? = some u → w.cell? ⟨g, off + j, none⟩ = some u) := by
    have hq := h.cls
    rcases hq with ⟨h1, h2⟩ | ⟨g, off, cap, cur, h1, h2, h3, h4, h5, h6⟩
    · rw [h2] at hnn
      obtain rfl : n = 0 := hnn.symm
      exact ⟨_, _, h1, fun h => absurd h (by omega)⟩
    · rw [hnn] at h1
      exact ⟨_, _, h1, fun _ => ⟨g, off, rfl, h3.lt, fun j u hj => (h3.cell _).trans (h6 j u hj)⟩⟩
  have c5 : w.cell? ⟨F, 5, none⟩ = some (.slice A n c) := by rw [h.blk.cell 5, ← hv]; rfl
  have hF := h.blk.lt
  have hn' : n ≤ 1000000 := by omega
  have HA := Lib.hid hA
  have HL := Lib.hid (And.intro hcl (And.intro hnn (And.intro hF c5)))
  clear h hcl hl hnn hv hn hA hF c5
  go_enter Tryz.func20, Tryz.ntmps20
  go_wp2_with fail
  refine CN.out.mono ?_
  rintro e w2 ⟨rfl, rfl⟩
  go_wp2_with fail
  go_loopw [3, 4] (fun v i wx => ∃ k : Nat, k ≤ n ∧ i = .int .i64 k ∧ Hid (∃ A c, v = .slice A k c ∧ wx.ownsRow w.heap.size 37 2 (.slice A k c) k (flatR trL ((m.ce.take k).map (·.t))) ∧ FrK w wx Kno)) (fun _ i _ => n - (intOf i).toNat)
  case atStart => exact ⟨0, Nat.zero_le _, rfl, Lib.hid ⟨none, 0, rfl, World.ownsRow_nil w _ _ 2, FrK.refl _ _⟩⟩
  case round =>
    obtain ⟨k, hk, rfl, HR⟩ := hrel
    obtain ⟨A1, c1, rfl, hown, hf⟩ := HR.out
    clear HR
    have c5 : wr.cell? ⟨F, 5, none⟩ = some (.slice A n c) := (World.cell?_of_block (a := ⟨F, 5, none⟩) (hf.block F HL.out.2.2.1 fun e => e)).trans HL.out.2.2.2
    by_cases hlt : k < n
    · obtain ⟨g, off, hAA, hg, hcells⟩ := HA.out (by omega)
      subst hAA
      have hlt' : (k : Int) < (n : Int) := by omega
      obtain ⟨x, hx⟩ : ∃ x, m.ce[k]? = some x := ⟨_, List.getElem?_eq_getElem (by rw [HL.out.2.1]; exact hlt)⟩
      have l1 : (loadK 37 ⟨g, off + k * 3, none⟩).run Tryz.prog wr = .ok (trV x.t) wr :=
        run_loadVar_cells wr _ _ ⟨g, off + k * 3, none⟩ [.int .u64 (x.t.hi : Nat), .int .u64 (x.t.lo : Nat)] Tryz.underlying37 rfl (by rfl) (fun j u hj => by
          have hj2 : j < 2 := (List.getElem?_eq_some_iff.1 hj).1
          rw [Addr.add_lit, Nat.add_assoc]
          refine (World.cell?_of_block (a := ⟨g, off + (k * 3 + j), none⟩) (hf.block g hg fun e => e)).trans (hcells _ _ ?_)
          rw [flatR_get clC_length hx j (by omega), ← hj]
          match j, hj2 with
          | 0, _ => rfl
          | 1, _ => rfl)
      have own2 : (wr.alloc (.cells #[.int .u64 (x.t.hi : Nat), .int .u64 (x.t.lo : Nat)] 37)).ownsRow w.heap.size 37 2 (.slice A1 k c1) k (flatR trL ((m.ce.take k).map (·.t))) :=
        own_of hown fun q hq => ((FrK.refl wr Kno).alloc _).block q (hown.lt q hq).2 fun e => e
      have f3 := hf.alloc (.cells #[.int .u64 (x.t.hi : Nat), .int .u64 (x.t.lo : Nat)] 37)
      obtain ⟨A3, c3, w3, hrun, own3, gr3⟩ := run_appTr own2 f3.size (by omega) (Bk.new wr 37 (trC x.t))
      have f4 := f3.trans (FrK.of_grown (K := fun b => w.heap.size ≤ b) gr3 fun b hb e => (own2.lt b e).1) fun b hb e => absurd e (by omega)
      have htk : (m.ce.take k).map (·.t) ++ [x.t] = (m.ce.take (k + 1)).map (·.t) := by
        rw [List.take_add_one, hx, List.map_append]
        rfl
      rw [htk] at own3
      have HR : Hid (∃ A c, Value.slice A3 (k + 1) c3 = .slice A (k + 1) c ∧ w3.ownsRow w.heap.size 37 2 (.slice A (k + 1) c) (k + 1) (flatR trL ((m.ce.take (k + 1)).map (·.t))) ∧ FrK w w3 Kno) := Lib.hid ⟨A3, c3, rfl, own3, f4⟩
      clear f4 own3 gr3 f3 own2 hown hf hcells
      go_wp2_with fail
      go_roundw
      case rel => exact ⟨k + 1, by omega, by go_num, HR⟩
      case measure => simp [intOf]; omega
    · obtain rfl : k = n := by omega
      have HR := Lib.hid (And.intro hown hf)
      clear hown hf
      go_wp2_with fail
      go_ret
      obtain ⟨hown, hf⟩ := HR.out
      rw [List.take_of_length_le (by rw [HL.out.2.1]; exact Nat.le_refl _), ← HL.out.1] at hown
      have hlen : (G.cl.map (·.1)).length = k := by rw [HL.out.1, List.length_map]; exact HL.out.2.1
      refine ⟨A1, c1, by rw [hlen]; rfl, ?_, hf.below (Nat.le_refl _) fun b e => e.elim⟩
      rw [hlen]
      exact hown
set_option maxRecDepth 100000 in
set_option maxHeartbeats 2000000 in
theorem rgOpen (h : Rga base w K Z F G m) (hn : G.op.length ≤ 1000000) : Calls Tryz.prog 22 #[ptV F] w (TrsP w (G.op.map (·.t))) := by
  have CN := Lib.hid (rgNone h)
  have hcl : G.op.map (·.t) = m.oe.map (·.t) := by rw [← h.oE]; simp [oeO]
  have hl := h.oN
  obtain ⟨n, hnn⟩ : ∃ n, m.oe.length = n := ⟨_, rfl⟩
  have ho := h.o
  rw [hnn] at ho
  obtain ⟨A, c, hv, -, -⟩ := own_form ho
  rw [hv] at ho
  have hrd : Rd w w.heap.size A (flatR oeC m.oe) := Rd.of_own ho
  have c4 : w.cell? ⟨F, 4, none⟩ = some (.slice A n c) := by rw [h.blk.cell 4, ← hv]; rfl
  have hF := h.blk.lt
  have hn' : n ≤ 1000000 := by omega
  have HA := Lib.hid hrd
  have HL := Lib.hid (And.intro hcl (And.intro hnn (And.intro hF c4)))
  clear h hcl hl hnn hv hn hF c4 ho hrd
  go_enter Tryz.func22, Tryz.ntmps22
  go_wp2_with fail
  refine CN.out.mono ?_
  rintro e w2 ⟨rfl, rfl⟩
  go_wp2_with fail
  go_loopw [3, 4] (fun v i wx => ∃ k : Nat, k ≤ n ∧ i = .int .i64 k ∧ Hid (∃ A c, v = .slice A k c ∧ wx.ownsRow w.heap.size 37 2 (.slice A k c) k (flatR trL ((m.oe.take k).map (·.t))) ∧ FrK w wx Kno)) (fun _ i _ => n - (intOf i).toNat)
  case atStart => exact ⟨0, Nat.zero_le _, rfl, Lib.hid ⟨none, 0, rfl, World.ownsRow_nil w _ _ 2, FrK.refl _ _⟩⟩
  case round =>
    obtain ⟨k, hk, rfl, HR⟩ := hrel
    obtain ⟨A1, c1, rfl, hown, hf⟩ := HR.out
    clear HR
    have c4 : wr.cell? ⟨F, 4, none⟩ = some (.slice A n c) := (World.cell?_of_block (a := ⟨F, 4, none⟩) (hf.block F HL.out.2.2.1 fun e => e)).trans HL.out.2.2.2
    by_cases hlt : k < n
    · have hlt' : (k : Int) < (n : Int) := by omega
      obtain ⟨x, hx⟩ : ∃ x, m.oe[k]? = some x := ⟨_, List.getElem?_eq_getElem (by rw [HL.out.2.1]; exact hlt)⟩
      obtain ⟨g, off, rfl, -, hcells⟩ := flatR_at oeC_length (by omega) (Rd.below HA.out (hf.below (Nat.le_refl _) fun b e => e.elim)) hx
      have l1 : (loadK 37 ⟨g, off + k * 4, none⟩).run Tryz.prog wr = .ok (trV x.t) wr :=
        run_loadVar_cells wr _ _ ⟨g, off + k * 4, none⟩ [.int .u64 (x.t.hi : Nat), .int .u64 (x.t.lo : Nat)] Tryz.underlying37 rfl (by rfl) (fun j u hj => by
          have hj2 : j < 2 := (List.getElem?_eq_some_iff.1 hj).1
          rw [Addr.add_lit, Nat.add_assoc, hcells j (by omega), ← hj]
          match j, hj2 with
          | 0, _ => rfl
          | 1, _ => rfl)
      have own2 : (wr.alloc (.cells #[.int .u64 (x.t.hi : Nat), .int .u64 (x.t.lo : Nat)] 37)).ownsRow w.heap.size 37 2 (.slice A1 k c1) k (flatR trL ((m.oe.take k).map (·.t))) :=
        own_of hown fun q hq => ((FrK.refl wr Kno).alloc _).block q (hown.lt q hq).2 fun e => e
      have f3 := hf.alloc (.cells #[.int .u64 (x.t.hi : Nat), .int .u64 (x.t.lo : Nat)] 37)
      obtain ⟨A3, c3, w3, hrun, own3, gr3⟩ := run_appTr own2 f3.size (by omega) (Bk.new wr 37 (trC x.t))
      have f4 := f3.trans (FrK.of_grown (K := fun b => w.heap.size ≤ b) gr3 fun b hb e => (own2.lt b e).1) fun b hb e => absurd e (by omega)
      have htk : (m.oe.take k).map (·.t) ++ [x.t] = (m.oe.take (k + 1)).map (·.t) := by
        rw [List.take_add_one, hx, List.map_append]
        rfl
      rw [htk] at own3
      have HR : Hid (∃ A c, Value.slice A3 (k + 1) c3 = .slice A (k + 1) c ∧ w3.ownsRow w.heap.size 37 2 (.slice A (k + 1) c) (k + 1) (flatR trL ((m.oe.take (k + 1)).map (·.t))) ∧ FrK w w3 Kno) := Lib.hid ⟨A3, c3, rfl, own3, f4⟩
      clear f4 own3 gr3 f3 own2 hown hf hcells
      go_wp2_with fail
      go_roundw
      case rel => exact ⟨k + 1, by omega, by go_num, HR⟩
      case measure => simp [intOf]; omega
    · obtain rfl : k = n := by omega
      have HR := Lib.hid (And.intro hown hf)
      clear hown hf
      go_wp2_with fail
      go_ret
      obtain ⟨hown, hf⟩ := HR.out
      rw [List.take_of_length_le (by rw [HL.out.2.1]; exact Nat.le_refl _), ← HL.out.1] at hown
      have hlen : (G.op.map (·.t)).length = k := by rw [HL.out.1, List.length_map]; exact HL.out.2.1
      refine ⟨A1, c1, by rw [hlen]; rfl, ?_, hf.below (Nat.le_refl _) fun b e => e.elim⟩
      rw [hlen]
      exact hown
end
end Go.Proofs.YtoojpagpkbcfjaaGreat


/- Layer 20, the document's side: a closed trace more; one ever closed more; the open ones anew. -/
namespace Go.Proofs.YtoojpagpkbcfjaaGreat
open Go.RowKit
section
variable {base F : Nat} {w w' : World} {K K' Z Z' : Nat → Prop} {G : GSt} {m : RM}
/-- One more closed trace. -/
theorem Rga.addC (h : Rga base w K Z F G m) {v' : Value} {e : ClE} (hf : FrK w w' fun b => b = F ∨ m.cv.ownBlock = some b) (hB : Bk w' F 72 ((rgC G m).setIfInBounds 5 v')) (hQ : ClQ w' base v' (m.ce ++ [e])) (he : ClZ w' Z' e)
    (hk : ∀ b, K b → K' b) (hz : ∀ b, Z b → Z' b) (hko : ∀ g, v'.ownBlock = some g → K' g) (hkz : ∀ b, K' b → ¬Z' b) (hlo : ∀ b, K' b → base ≤ b ∧ b < w'.heap.size) (hloZ : ∀ b, Z' b → b < w'.heap.size) :
    Rga base w' K' Z' F { G with cl := G.cl ++ [(e.t, sps e.l)] } { m with cv := v', ce := m.ce ++ [e] } := by
  have hbk : ∀ {b : Nat} {t : TypeId} {cs : Array Value}, Bk w b t cs → t ≠ 72 → t ≠ 47 → w'.heap[b]? = w.heap[b]? := fun {b t cs} hb h1 h2 => hf.block b hb.lt (by
    rintro (e | e)
    · exact ne_of_type hb h.blk h1 e
    · obtain ⟨cur, hc⟩ := ClQ.blk h.cls e
      exact ne_of_type hb hc h2 rfl)
  have hzz : ∀ b, Z b → w'.heap[b]? = w.heap[b]? := fun b hb => hf.block b (h.loZ b hb) (by
    rintro (e | e)
    · exact h.kz F h.kF (e ▸ hb)
    · exact h.kz b (h.kC b e) hb)
  exact { blk := by
            have e1 : rgC { G with cl := G.cl ++ [(e.t, sps e.l)] } { m with cv := v', ce := m.ce ++ [e] } = (rgC G m).setIfInBounds 5 v' := by simp [rgC]
            rw [e1]
            exact hB
          o := own_of h.o fun g e => by
            obtain ⟨cur, hcur⟩ := own_bk h.o e
            exact hbk hcur (by decide) (by decide)
          oE := h.oE
          row := fun x hx => own_of (h.row x hx) fun g e => by
            obtain ⟨cur, hcur⟩ := own_bk (h.row x hx) e
            exact hbk hcur (by decide) (by decide)
          el := fun x hx e he => (h.el x hx e he).keep hzz hf.size hz
          inj := h.inj
          cls := hQ
          clsE := by
            have h1 := h.clsE
            unfold clsOf at *
            rw [List.map_append, h1]
            rfl
          clz := fun x hx => by
            rcases List.mem_append.1 hx with hx | hx
            · exact (h.clz x hx).keep hzz hf.size hz
            · rw [List.mem_singleton.1 hx]
              exact he
          all := own_of h.all fun g e => by
            obtain ⟨cur, hcur⟩ := own_bk h.all e
            exact hbk hcur (by decide) (by decide)
          kF := hk _ h.kF
          kO := fun g e => hk _ (h.kO g e)
          kR := fun x hx g e => hk _ (h.kR x hx g e)
          kC := hko
          kA := fun g e => hk _ (h.kA g e)
          kz := hkz
          lo := hlo
          loZ := hloZ }
/-- A row of F's grown: its new block is new, or the old one. -/
theorem Rga.grow1 (h : Rga base w K Z F G m) {v v' : Value} (hv : ∀ g, v.ownBlock = some g → K g) (hf : FrK w w' fun b => b = F ∨ v.ownBlock = some b) (hnew : ∀ g, v'.ownBlock = some g → g < w'.heap.size ∧ (v.ownBlock = some g ∨ w.heap.size ≤ g)) :
    Gro w w' K (fun b => K b ∨ v'.ownBlock = some b) Z Z ∧ (∀ b, (K b ∨ v'.ownBlock = some b) → ¬Z b) ∧ (∀ b, (K b ∨ v'.ownBlock = some b) → base ≤ b ∧ b < w'.heap.size) ∧ ∀ b, Z b → b < w'.heap.size := by
  have hk : ∀ g, v'.ownBlock = some g → K g ∨ w.heap.size ≤ g := fun g e => (hnew g e).2.imp (hv g) id
  refine ⟨⟨fun _ e => .inl e, fun _ e => e, fun b e => e.elim .inl (hk b), fun _ e => .inl e, hf.mono fun b _ e => e.elim (fun e => e ▸ h.kF) (hv b)⟩, fun b e hz => ?_, fun b e => ?_, fun b e => Nat.lt_of_lt_of_le (h.loZ b e) hf.size⟩
  · rcases e with e | e
    · exact h.kz b e hz
    · rcases hk b e with e | e
      · exact h.kz b e hz
      · have := h.loZ b hz
        omega
  · rcases e with e | e
    · exact ⟨(h.lo b e).1, Nat.lt_of_lt_of_le (h.lo b e).2 hf.size⟩
    · refine ⟨?_, (hnew b e).1⟩
      rcases hk b e with e | e
      · exact (h.lo b e).1
      · have := h.baseLe
        omega
/-- One more that was ever closed. -/
theorem Rga.addA (h : Rga base w K Z F G m) {v' : Value} {t : Tr} (hf : FrK w w' fun b => b = F ∨ m.av.ownBlock = some b) (hB : Bk w' F 72 ((rgC G m).setIfInBounds 6 v')) (hQ : w'.ownsRow base 37 2 v' (G.all ++ [t]).length (flatR trL (G.all ++ [t])))
    (hnew : ∀ g, v'.ownBlock = some g → m.av.ownBlock = some g ∨ w.heap.size ≤ g) :
    ∃ K', Gro w w' K K' Z Z ∧ Rga base w' K' Z F { G with all := G.all ++ [t] } { m with av := v' } := by
  obtain ⟨g1, g2, g3, g4⟩ := h.grow1 (v' := v') h.kA hf fun g e => ⟨(hQ.lt g e).2, hnew g e⟩
  have hbk : ∀ {b : Nat} {t : TypeId} {cs : Array Value}, Bk w b t cs → t ≠ 72 → t ≠ 37 → w'.heap[b]? = w.heap[b]? := fun {b t cs} hb h1 h2 => hf.block b hb.lt (by
    rintro (e | e)
    · exact ne_of_type hb h.blk h1 e
    · obtain ⟨cur, hc⟩ := own_bk h.all e
      exact ne_of_type hb hc h2 rfl)
  have hzz : ∀ b, Z b → w'.heap[b]? = w.heap[b]? := fun b hb => hf.block b (h.loZ b hb) (by
    rintro (e | e)
    · exact h.kz F h.kF (e ▸ hb)
    · exact h.kz b (h.kA b e) hb)
  refine ⟨_, g1, ?_⟩
  exact { blk := by
            have e1 : rgC { G with all := G.all ++ [t] } { m with av := v' } = (rgC G m).setIfInBounds 6 v' := by simp [rgC]
            rw [e1]
            exact hB
          o := own_of h.o fun g e => by
            obtain ⟨cur, hcur⟩ := own_bk h.o e
            exact hbk hcur (by decide) (by decide)
          oE := h.oE
          row := fun x hx => own_of (h.row x hx) fun g e => by
            obtain ⟨cur, hcur⟩ := own_bk (h.row x hx) e
            exact hbk hcur (by decide) (by decide)
          el := fun x hx e he => (h.el x hx e he).keep hzz hf.size fun _ e => e
          inj := h.inj
          cls := h.cls.keep fun g e => by
            obtain ⟨cur, hc⟩ := ClQ.blk h.cls e
            exact hbk hc (by decide) (by decide)
          clsE := h.clsE
          clz := fun x hx => (h.clz x hx).keep hzz hf.size fun _ e => e
          all := hQ
          kF := .inl h.kF
          kO := fun g e => .inl (h.kO g e)
          kR := fun x hx g e => .inl (h.kR x hx g e)
          kC := fun g e => .inl (h.kC g e)
          kA := fun g e => .inr e
          kz := g2
          lo := g3
          loZ := g4 }
/-- The open traces anew: some of the old ones. -/
theorem Rga.setO (h : Rga base w K Z F G m) {v' : Value} {oe' : List OE} {op' : List Opn} (hf : FrK w w' fun b => b = F) (hB : Bk w' F 72 ((rgC G m).setIfInBounds 4 v')) (hQ : w'.ownsRow base 79 4 v' oe'.length (flatR oeC oe'))
    (hsub : ∀ e ∈ oe', e ∈ m.oe) (hop : oe'.map oeO = op') (hnew : ∀ g, v'.ownBlock = some g → m.ov.ownBlock = some g ∨ w.heap.size ≤ g) :
    ∃ K', Gro w w' K K' Z Z ∧ Rga base w' K' Z F { G with op := op' } { m with ov := v', oe := oe' } := by
  obtain ⟨g1, g2, g3, g4⟩ := h.grow1 (v' := v') h.kO (hf.mono fun _ _ e => .inl e) fun g e => ⟨(hQ.lt g e).2, hnew g e⟩
  have hbk : ∀ {b : Nat} {t : TypeId} {cs : Array Value}, Bk w b t cs → t ≠ 72 → w'.heap[b]? = w.heap[b]? := fun {b t cs} hb h1 => hf.block b hb.lt (fun e => ne_of_type hb h.blk h1 e)
  have hzz : ∀ b, Z b → w'.heap[b]? = w.heap[b]? := fun b hb => hf.block b (h.loZ b hb) fun e => h.kz F h.kF (e ▸ hb)
  refine ⟨_, g1, ?_⟩
  exact { blk := by
            have e1 : rgC { G with op := op' } { m with ov := v', oe := oe' } = (rgC G m).setIfInBounds 4 v' := by simp [rgC]
            rw [e1]
            exact hB
          o := hQ
          oE := hop
          row := fun x hx => own_of (h.row x (hsub x hx)) fun g e => by
            obtain ⟨cur, hcur⟩ := own_bk (h.row x (hsub x hx)) e
            exact hbk hcur (by decide)
          el := fun x hx e he => (h.el x (hsub x hx) e he).keep hzz hf.size fun _ e => e
          inj := fun e he f hf2 => h.inj e (hsub e he) f (hsub f hf2)
          cls := h.cls.keep fun g e => by
            obtain ⟨cur, hc⟩ := ClQ.blk h.cls e
            exact hbk hc (by decide)
          clsE := h.clsE
          clz := fun x hx => (h.clz x hx).keep hzz hf.size fun _ e => e
          all := own_of h.all fun g e => by
            obtain ⟨cur, hcur⟩ := own_bk h.all e
            exact hbk hcur (by decide)
          kF := .inl h.kF
          kO := fun g e => .inr e
          kR := fun x hx g e => .inl (h.kR x (hsub x hx) g e)
          kC := fun g e => .inl (h.kC g e)
          kA := fun g e => .inl (h.kA g e)
          kz := g2
          lo := g3
          loZ := g4 }
end
end Go.Proofs.YtoojpagpkbcfjaaGreat


/- Layer 20, the document's side: close (printed by tools/genGaR.py out of tools/genRgE.txt). -/
namespace Go.Proofs.YtoojpagpkbcfjaaGreat
open Go.RowKit
def storeKO (t : TypeId) (a : Addr) (v : Value) : Sem Unit := storeVar t a v
theorem storeKO_shut (a : Addr) (v : Value) : storeVar 79 a v = storeKO 79 a v := rfl
theorem loadOT_shut (a : Addr) : loadVar 79 a = loadK 79 a := rfl
attribute [local go_sem ↓] loadTr_shut appKG_shut storeKO_shut loadOT_shut
set_option maxRecDepth 100000 in
theorem oeBox {W : World} (e : OE) {r : Nat} {cs : Array Value} (hB : Bk W r 79 cs) (hcs : cs.size = 4) : ∃ W2, (storeKO 79 ⟨r, 0, none⟩ (oeV e)).run Tryz.prog W = .ok () W2 ∧ Bk W2 r 79 (oeC e).toArray ∧ FrK W W2 (Kis r) := by
  have hst := run_storeVar_row (P := Tryz.prog) W r 0 79 79 (oeC e).toArray cs hB (by simp [oeC]; omega) (fun u hu => oeC_one e u (by simpa using hu)) (by rfl)
  have h2 := setRow_heap W r cs (cs.toList.take 0 ++ (oeC e).toArray.toList ++ cs.toList.drop (0 + (oeC e).toArray.size)).toArray _ _ hB
  have e2 : (cs.toList.take 0 ++ (oeC e).toArray.toList ++ cs.toList.drop (0 + (oeC e).toArray.size)).toArray = (oeC e).toArray := by
    have h3 : cs.toList.drop (0 + (oeC e).toArray.size) = [] := List.drop_eq_nil_of_le (by simp [oeC]; omega)
    rw [h3]
    simp
  rw [e2] at h2 hst
  exact ⟨_, hst, h2, FrK.of_grown (only_row r _) fun b _ e => (Option.some.inj e).symm⟩
set_option maxRecDepth 100000 in
theorem ldOT {w : World} {b o : Nat} {e : OE} (h : ∀ j, j < 4 → w.cell? ⟨b, o + j, none⟩ = (oeC e)[j]?) : (loadK 79 ⟨b, o, none⟩).run Tryz.prog w = .ok (oeV e) w :=
  run_loadVar_cells w _ _ ⟨b, o, none⟩ (oeC e) Tryz.underlying79 rfl (by rfl) (fun j v hv => by
    rw [Addr.add_lit, h j (List.getElem?_eq_some_iff.1 hv).1]
    exact hv)
set_option maxRecDepth 100000 in
theorem run_slOl (w : World) (a : Option Addr) (n c i : Nat) (h1 : i ≤ n) : (Instr.slice 70 (.slice a n c) (some (.int .i64 (i : Int))) none none).run Tryz.prog w = .ok (.slice (cutA a c i 4) (n - i) (c - i)) w := by
  have h := run_slice_l (P := Tryz.prog) w 70 a n c Tryz.underlying70 .i64 i (by omega) (by omega)
  rw [h]
  have hs : (sizeOf (Tryz.prog.elem 70)).run Tryz.prog w = .ok 4 w := by kernel_rfl
  rw [hs]
  simp [Result.andThen, sliced, cutA]
set_option maxRecDepth 100000 in
theorem run_slOh (w : World) (a : Option Addr) (n c i : Nat) (h1 : i ≤ c) : (Instr.slice 70 (.slice a n c) none (some (.int .i64 (i : Int))) none).run Tryz.prog w = .ok (.slice a i c) w := by
  have h := run_slice_h (P := Tryz.prog) w 70 a n c Tryz.underlying70 .i64 i (by omega) (by omega)
  rw [h]
  have hs : (sizeOf (Tryz.prog.elem 70)).run Tryz.prog w = .ok 4 w := by kernel_rfl
  rw [hs]
  simp [Result.andThen, sliced_s0]
theorem oeinfo : (Tryz.prog.info? 79).map (fun i => (i.zero, i.size, i.bytes)) = some (some (.agg #[.int .u64 0, .int .u64 0, .slice none 0 0, .int .i64 0]), 4, 48) := by kernel_rfl
/-- append of open traces. -/
theorem run_appO {w : World} {base n m c : Nat} {v : Value} {A : Option Addr} {xs ys : List OE} (h : w.ownsRow base 79 4 v n (flatR oeC xs)) (hb : base ≤ w.heap.size) (hr : Rd w w.heap.size A (flatR oeC ys)) (hm : ys.length = m) (hn : n + m ≤ 100000000) :
    ∃ A' c' w', (appKG #[70, 70] 70 #[v, .slice A m c]).run Tryz.prog w = .ok (.slice A' (n + m) c') w' ∧ w'.ownsRow base 79 4 (.slice A' (n + m) c') (n + m) (flatR oeC (xs ++ ys)) ∧ w.grownBy w' v.ownBlock ∧
      ((Value.slice A' (n + m) c').ownBlock = v.ownBlock ∨ (Value.slice A' (n + m) c').ownBlock = some w.heap.size) := by
  obtain ⟨i0, hi0, hz0, hz1, hz2⟩ := info_parts oeinfo
  obtain ⟨v', w', hrun, own, gr, bl, ⟨A', c', rfl⟩, -⟩ := run_app (P := Tryz.prog) (w := w) base 70 70 79 i0 _ 4 48 Tryz.underlying70 hi0 hz0 hz1 hz2 rfl (by omega) v n (flatR oeC xs) h w.heap.size A m c (flatR oeC ys) (by rw [flatR_length oeC_length, hm]) hr (flatR_one oeC_one ys) (by simp only [maxLen]; omega) (by omega) hb
  exact ⟨A', c', w', hrun, by rw [flatR_append]; exact own, gr, bl⟩
/-- append of one trace, where its block is told. -/
theorem run_appT2 {w : World} {base g n : Nat} {v : Value} {xs : List Tr} {t : Tr} (h : w.ownsRow base 37 2 v n (flatR trL xs)) (hb : base ≤ w.heap.size) (hn : n ≤ 1000000000) (hG : Bk w g 37 (trC t)) :
    ∃ A' c' w', (appKG #[54, 54] 54 #[v, .slice (some ⟨g, 0, none⟩) 1 1]).run Tryz.prog w = .ok (.slice A' (n + 1) c') w' ∧ w'.ownsRow base 37 2 (.slice A' (n + 1) c') (n + 1) (flatR trL (xs ++ [t])) ∧ w.grownBy w' v.ownBlock ∧
      ((Value.slice A' (n + 1) c').ownBlock = v.ownBlock ∨ (Value.slice A' (n + 1) c').ownBlock = some w.heap.size) := by
  obtain ⟨i0, hi0, hz0, hz1, hz2⟩ := info_parts trinfo
  have hr : Rd w w.heap.size (some ⟨g, 0, none⟩) (flatR trL [t]) := fun _ => ⟨g, 0, rfl, hG.lt, fun j u hu => by
    rw [Nat.zero_add, hG.cell j]
    simpa [flatR, trL] using hu⟩
  obtain ⟨v', w', hrun, own, gr, bl, ⟨A', c', rfl⟩, -⟩ := run_app (P := Tryz.prog) (w := w) base 54 54 37 i0 _ 2 16 Tryz.underlying54 hi0 hz0 hz1 hz2 rfl (by omega) v n (flatR trL xs) h w.heap.size (some ⟨g, 0, none⟩) 1 1 (flatR trL [t]) (by rw [flatR_length trL_length]; rfl) hr (flatR_one trL_one [t]) (by simp only [maxLen]; omega) (by omega) hb
  exact ⟨A', c', w', hrun, by rw [flatR_append]; exact own, gr, bl⟩
theorem Rd.dropO {w : World} {B k cap : Nat} {A : Option Addr} {l : List OE} (h : Rd w B A (flatR oeC l)) (hc : l.length ≤ cap) : Rd w B (cutA A cap k 4) (flatR oeC (l.drop k)) := by
  unfold cutA
  rw [← flatR_drop oeC_length]
  have h1 := Rd.drop (k := k * 4) (cap := cap * 4) h (by rw [flatR_length oeC_length]; omega)
  by_cases hk : cap = k
  · rw [if_pos hk]
    rwa [if_pos (by omega)] at h1
  · rw [if_neg hk]
    rwa [if_neg (by omega)] at h1
theorem Rd.takeO {w : World} {B : Nat} {A : Option Addr} {l : List OE} (h : Rd w B A (flatR oeC l)) (k : Nat) : Rd w B A (flatR oeC (l.take k)) := by
  rw [← flatR_take oeC_length]
  exact Rd.take h _
section
variable {base F : Nat} {w w' : World} {K K' Z Z' : Nat → Prop} {G : GSt} {m : RM}
/-- What close's first region reads. -/
def RcS (F r : Nat) (m : RM) (t : Tr) (v : Value) (w : World) : Prop :=
  w.cell? ⟨F, 5, none⟩ = some m.cv ∧ (loadK 37 ⟨r, 0, none⟩).run Tryz.prog w = .ok (trV t) w ∧ w.cell? ⟨r, 2, none⟩ = some v
theorem Rga.rcS (h : Bk w F 72 (rgC G m)) {r : Nat} {ex : OE} (hr : Bk w r 79 (oeC ex).toArray) : RcS F r m ex.t (oeR ex) w :=
  ⟨(h.cell 5).trans rfl, ldTrB (o := 0) (a := ex.t.hi) (b := ex.t.lo) hr rfl rfl, (hr.cell 2).trans rfl⟩
/-- What the append of close's first region and its store come to. -/
def RcJ (base : Nat) (w2 w5 : World) (K Z : Nat → Prop) (F r : Nat) (G : GSt) (m : RM) (ex : OE) (n : Nat) (A' : Option Addr) (c' : Nat) (v' : Value) (w7 : World) : Prop :=
  (appKG #[67, 67] 67 #[m.cv, .slice (some ⟨w5.heap.size, 0, none⟩) 1 1]).run Tryz.prog (w5.alloc (.cells #[.int .u64 (ex.t.hi : Nat), .int .u64 (ex.t.lo : Nat), .slice A' n c'] 47)) = .ok v' w7 ∧
  RcS F r m ex.t (oeR ex) w5 ∧ RcS F r m ex.t (oeR ex) (w5.alloc (.cells #[.int .u64 (ex.t.hi : Nat), .int .u64 (ex.t.lo : Nat), .slice A' n c'] 47)) ∧ RcS F r m ex.t (oeR ex) w7 ∧ w7.frozen? ⟨F, 5, none⟩ = false ∧ (∃ A8 n8 d8, v' = .slice A8 n8 d8) ∧
  ∃ K' Z' m', Gro w2 (w7.setCell ⟨F, 5, none⟩ v') K K' Z Z' ∧ m'.oe = m.oe ∧ m'.ov = m.ov ∧ m'.av = m.av ∧ Rga base (w7.setCell ⟨F, 5, none⟩ v') K' Z' F { G with cl := G.cl ++ [(ex.t, ordS (sps ex.l))] } m' ∧ Bk (w7.setCell ⟨F, 5, none⟩ v') r 79 (oeC ex).toArray
theorem Rga.joinC {w2 w5 : World} (h2 : Rga base w2 K Z F G m) {ex : OE} {r : Nat} (b2 : Bk w2 r 79 (oeC ex).toArray) (hce : m.ce.length ≤ 1000000) {n c' : Nat} {A' : Option Addr} {l' : List El} (hs5 : sps l' = ordS (sps ex.l)) (hr5 : RowS w5 w2.heap.size (.slice A' n c') n l') (hb5 : Below w2.heap.size w2 w5)
    (hz5 : ∀ e ∈ l', ∀ a, e.A = some a → w2.heap.size ≤ a.block) : ∃ v' w7, RcJ base w2 w5 K Z F r G m ex n A' c' v' w7 := by
  have h5 := h2.below hb5
  have b5 := b2.below hb5 b2.lt
  obtain ⟨lit, hlit⟩ : ∃ lit : Array Value, #[.int .u64 (ex.t.hi : Nat), .int .u64 (ex.t.lo : Nat), .slice A' n c'] = lit := ⟨_, rfl⟩
  have hcl : (clC ⟨ex.t, l', A', c'⟩).toArray = lit := by rw [← hlit, ← hr5.len]; rfl
  have h6 := h5.below ((Below.refl _ w5).alloc (Nat.le_refl _) (.cells lit 47))
  have b6 := b5.alloc (.cells lit 47)
  have g6 := Bk.new w5 47 lit
  rw [← hcl] at g6
  have hf6 : FrK w5 (w5.alloc (.cells lit 47)) (fun b => b = F ∨ m.cv.ownBlock = some b) := (FrK.refl w5 _).alloc _
  have hz6 : w5.heap.size ≤ (w5.alloc (.cells lit 47)).heap.size := by simp
  unfold RcJ
  rw [hlit]
  rw [hcl] at g6
  obtain ⟨w6, e6⟩ : ∃ w6, w5.alloc (.cells lit 47) = w6 := ⟨_, rfl⟩
  rw [e6] at h6 b6 g6 hf6 hz6 ⊢
  rw [← hcl] at g6
  obtain ⟨v', w7, hrun, q7, gr7, ob7⟩ := run_appCl (c := 1) h6.cls h6.baseLe (by omega) g6
  have hf7 : FrK w6 w7 fun b => m.cv.ownBlock = some b := FrK.of_grown gr7 fun b _ e => e
  have hFc : m.cv.ownBlock ≠ some F := fun e => by
    obtain ⟨cur, hc⟩ := ClQ.blk h6.cls e
    exact ne_of_type hc h6.blk (by decide) rfl
  have hrc : m.cv.ownBlock ≠ some r := fun e => by
    obtain ⟨cur, hc⟩ := ClQ.blk h6.cls e
    exact ne_of_type hc b6 (by decide) rfl
  have hB7 : Bk w7 F 72 (rgC G m) := hf7.bk h6.blk hFc
  have b7 := hf7.bk b6 hrc
  have hB8 := hB7.set 5 v'
  have hrF : r ≠ F := ne_of_type b7 hB7 (by decide)
  have hf8 := FrK.set w7 F 5 v'
  have b8 := hf8.bk b7 hrF
  have hv'F : v'.ownBlock ≠ some F := fun e => by
    obtain ⟨cur, hc⟩ := ClQ.blk q7 e
    exact ne_of_type hc hB7 (by decide) rfl
  have q8 : ClQ (w7.setCell ⟨F, 5, none⟩ v') base v' (m.ce ++ [⟨ex.t, l', A', c'⟩]) := q7.keep fun g e => hf8.block g (by
    obtain ⟨cur, hc⟩ := ClQ.blk q7 e
    exact hc.lt) fun e2 => hv'F ((show g = F from e2) ▸ e)
  have hf58 : FrK w5 (w7.setCell ⟨F, 5, none⟩ v') fun b => b = F ∨ m.cv.ownBlock = some b := (hf6.trans hf7 fun b _ e => .inr e).trans hf8 fun b _ e => .inl e
  have hkz5 : ∀ b, K b → b < w2.heap.size := fun b hb => (h2.lo b hb).2
  have he8 : ClZ (w7.setCell ⟨F, 5, none⟩ v') (fun b => Z b ∨ (w2.heap.size ≤ b ∧ b < w5.heap.size)) ⟨ex.t, l', A', c'⟩ := (clz_new (Z := Z) (t := ex.t) hr5 hz5).keep (fun b hb => hf58.block b (hb.elim (fun e => Nat.lt_of_lt_of_le (h2.loZ b e) hb5.size) (fun e => e.2)) fun e => by
    have hKb : K b := e.elim (fun e => e ▸ h2.kF) (h2.kC b)
    rcases hb with hb | hb
    · exact h2.kz b hKb hb
    · have := hkz5 b hKb
      omega) hf58.size fun _ e => e
  have hlt8 : ∀ g, v'.ownBlock = some g → g < (w7.setCell ⟨F, 5, none⟩ v').heap.size ∧ (K g ∨ w6.heap.size ≤ g) := fun g e => by
    obtain ⟨cur, hc⟩ := ClQ.blk q8 e
    refine ⟨hc.lt, ?_⟩
    rcases ob7 with e2 | ⟨g', e2, hg'⟩
    · exact .inl (h2.kC g (by rw [← e2]; exact e))
    · rw [e2] at e
      cases e
      exact .inr hg'
  have hs25 := hb5.size
  have hG8 := Rga.addC (K' := fun b => K b ∨ v'.ownBlock = some b) h5 hf58 hB8 q8 he8 (fun _ e => .inl e) (fun _ e => .inl e) (fun g e => .inr e) (fun b hb hzb => by
    rcases hb with hb | hb
    · rcases hzb with hz | hz
      · exact h2.kz b hb hz
      · have := hkz5 b hb
        omega
    · rcases (hlt8 b hb).2 with hk | hk
      · rcases hzb with hz | hz
        · exact h2.kz b hk hz
        · have := hkz5 b hk
          omega
      · rcases hzb with hz | hz
        · have := h2.loZ b hz
          omega
        · omega) (fun b hb => by
    rcases hb with hb | hb
    · exact ⟨(h2.lo b hb).1, Nat.lt_of_lt_of_le (h5.lo b hb).2 hf58.size⟩
    · refine ⟨?_, (hlt8 b hb).1⟩
      rcases (hlt8 b hb).2 with hk | hk
      · exact (h2.lo b hk).1
      · have := h2.baseLe
        omega) (fun b hb => by
    rcases hb with hb | hb
    · exact Nat.lt_of_lt_of_le (h5.loZ b hb) hf58.size
    · exact Nat.lt_of_lt_of_le hb.2 hf58.size)
  refine ⟨v', w7, hrun, Rga.rcS h5.blk b5, Rga.rcS h6.blk b6, Rga.rcS hB7 b7, hB7.frozen 5, ?_, fun b => K b ∨ v'.ownBlock = some b, fun b => Z b ∨ (w2.heap.size ≤ b ∧ b < w5.heap.size), { m with cv := v', ce := m.ce ++ [⟨ex.t, l', A', c'⟩] }, ⟨fun _ e => .inl e, fun _ e => .inl e, fun b hb => ?_, fun b hb => hb.imp id fun e => e.1, ?_⟩, rfl, rfl, rfl, ?_, b8⟩
  · rcases q7 with ⟨e, -⟩ | ⟨g', o', p', -, e, -⟩
    · exact ⟨_, _, _, e⟩
    · exact ⟨_, _, _, e⟩
  · rcases hb with hb | hb
    · exact .inl hb
    · exact (hlt8 b hb).2.imp id fun e => by omega
  · exact (FrK.of_below hb5 (Nat.le_refl _) K).trans hf58 fun b _ e => e.elim (fun e => e ▸ h2.kF) (h2.kC b)
  · rw [← hs5]
    exact hG8
end
end Go.Proofs.YtoojpagpkbcfjaaGreat


/- Layer 20, plain: each trace is closed once, with its spans. -/
namespace Go.Proofs.YtoojpagpkbcfjaaGreat
open Go.RowKit
def opS (l : List Opn) : List Sp := l.flatMap (·.l)
def clSs (l : List (Tr × List Sp)) : List Sp := l.flatMap (·.2)
theorem delOf_none {t : Tr} {l : List Opn} (h : ∀ x ∈ l, x.t ≠ t) : GSt.delOf t l = l := by
  unfold GSt.delOf
  exact List.filter_eq_self.2 fun x hx => by simpa using h x hx
theorem opS_del {x : Opn} : ∀ {l : List Opn}, OpS l → x ∈ l → (opS l).Perm (x.l ++ opS (GSt.delOf x.t l))
  | [], _, h => by cases h
  | y :: l, hs, h => by
    have hne := hs.ne
    by_cases hy : y.t = x.t
    · have hxy : x = y := by
        rcases List.mem_cons.1 h with h | h
        · exact h
        · exact absurd hy.symm (hne x h)
      subst hxy
      have e : GSt.delOf x.t (x :: l) = l := by
        have h1 : GSt.delOf x.t (x :: l) = GSt.delOf x.t l := by simp [GSt.delOf]
        rw [h1, delOf_none hne]
      rw [e]
      exact List.Perm.refl _
    · have hx : x ∈ l := by
        rcases List.mem_cons.1 h with h | h
        · exact absurd (by rw [h]) hy
        · exact h
      have e : GSt.delOf x.t (y :: l) = y :: GSt.delOf x.t l := by
        unfold GSt.delOf
        rw [List.filter_cons, if_pos (by simpa using hy)]
      rw [e]
      have ih := opS_del (List.Pairwise.of_cons hs) hx
      show (y.l ++ opS l).Perm (x.l ++ (y.l ++ opS (GSt.delOf x.t l)))
      refine (ih.append_left y.l).trans ?_
      rw [← List.append_assoc, ← List.append_assoc]
      exact List.Perm.append_right _ List.perm_append_comm
theorem opS_put {x : Opn} {l : List Opn} (hs : OpS l) : (opS (GSt.putIn x l)).Perm (x.l ++ opS (GSt.delOf x.t l)) := by
  have h := opS_del (x := x) (OpS.putIn (x := x) hs) ((mem_putIn hs x).2 (.inl rfl))
  rwa [delOf_putIn] at h
structure Once (G : GSt) (I O : List Sp) (S : List Tr) : Prop where
  perm : I.Perm (O ++ (clSs G.cl ++ opS G.op))
  nd : (S ++ G.cl.map (·.1)).Nodup
  all : ∀ t ∈ S ++ G.cl.map (·.1), t ∈ G.all
  chk : ∀ s ∈ I, spChk s = 0
section
variable {G : GSt} {I O : List Sp} {S : List Tr} {k : Nat}
theorem Once.new (win cap : Int) : Once (GSt.new win cap) [] [] [] := ⟨List.Perm.refl _, List.nodup_nil, fun t h => by simp [GSt.new] at h, fun s h => by cases h⟩
theorem Once.close (h : Once G I O S) {t : Tr} {l J : List Sp} (ht : t ∉ G.all) (hp : J.Perm (O ++ (clSs G.cl ++ (l ++ opS (GSt.delOf t G.op))))) (hc : ∀ s ∈ J, spChk s = 0) : Once (G.close t l) J O S where
  perm := by
    rw [close_cl, close_op]
    refine hp.trans (List.Perm.append_left O ?_)
    have e : clSs (G.cl ++ [(t, ordS l)]) = clSs G.cl ++ ordS l := by simp [clSs]
    rw [e, List.append_assoc]
    exact List.Perm.append_left _ (List.Perm.append_right _ (ordS_perm l).symm)
  nd := by
    rw [close_cl, List.map_append, ← List.append_assoc]
    show (S ++ G.cl.map (·.1) ++ [t]).Nodup
    rw [List.nodup_append]
    refine ⟨h.nd, by simp, fun a ha b hb e => ?_⟩
    rw [List.mem_singleton.1 hb] at e
    exact ht (e ▸ h.all a ha)
  all u hu := by
    rw [close_cl, List.map_append, ← List.append_assoc] at hu
    show u ∈ G.all ++ [t]
    rcases List.mem_append.1 hu with hu | hu
    · exact List.mem_append_left _ (h.all u hu)
    · exact List.mem_append_right _ hu
  chk := hc
theorem lst_perm (hok : G.Ok k) (s : Sp) : (G.lst s ++ opS (GSt.delOf s.tr G.op)).Perm (opS G.op ++ [s]) := by
  unfold GSt.lst
  cases hg : G.get s.tr with
  | none =>
    have hn : ∀ x ∈ G.op, x.t ≠ s.tr := fun x hx e => by
      unfold GSt.get at hg
      have := List.find?_eq_none.1 hg x hx
      simp [e] at this
    rw [delOf_none hn]
    exact List.perm_append_comm
  | some x =>
    obtain ⟨h1, h2⟩ := get_mem hg
    have h3 := opS_del hok.ops h1
    rw [h2] at h3
    simp only
    rw [List.append_assoc]
    refine List.Perm.trans ?_ (h3.symm.append_right [s])
    rw [List.append_assoc]
    exact List.Perm.append_left _ List.perm_append_comm
/-- Is a span taken? -/
def taken (p : Nat × Nat) : Prop := p.2 = 0 ∧ p.1 ≠ 2
instance (p : Nat × Nat) : Decidable (taken p) := inferInstanceAs (Decidable (_ ∧ _))
theorem Once.add (h : Once G I O S) (hok : G.Ok k) (s : Sp) : Once (G.add s).1 (if taken (G.add s).2 then I ++ [s] else I) O S ∧ (G.add s).1.late = G.late + (if (G.add s).2.2 = 0 ∧ (G.add s).2.1 = 2 then 1 else 0) := by
  rw [GSt.add_eq]
  split
  · rename_i hs
    refine ⟨?_, ?_⟩
    · rw [if_neg (fun e => hs e.1)]
      exact h
    · rw [if_neg (fun e => hs e.1)]
      rfl
  · rename_i hs
    have hs : spChk s = 0 := by simpa using hs
    split
    · refine ⟨?_, ?_⟩
      · rw [if_neg (fun e => e.2 rfl)]
        exact ⟨h.perm, h.nd, h.all, h.chk⟩
      · rw [if_pos ⟨rfl, rfl⟩]
    · rename_i hall
      have hp : (I ++ [s]).Perm (O ++ (clSs G.cl ++ (G.lst s ++ opS (GSt.delOf s.tr G.op)))) := by
        refine (h.perm.append_right [s]).trans ?_
        rw [List.append_assoc, List.append_assoc]
        exact List.Perm.append_left _ (List.Perm.append_left _ (lst_perm hok s).symm)
      have hc : ∀ u ∈ I ++ [s], spChk u = 0 := fun u hu => by
        rcases List.mem_append.1 hu with hu | hu
        · exact h.chk u hu
        · rw [List.mem_singleton.1 hu]
          exact hs
      split
      · refine ⟨?_, ?_⟩
        · rw [if_pos ⟨rfl, by show (3 : Nat) ≠ 2; omega⟩]
          exact h.close hall hp hc
        · rw [if_neg (fun e => absurd (show (3 : Nat) = 2 from e.2) (by omega))]
          rfl
      · refine ⟨?_, ?_⟩
        · rw [if_pos ⟨rfl, by show (1 : Nat) ≠ 2; omega⟩]
          exact ⟨hp.trans (List.Perm.append_left _ (List.Perm.append_left _ (opS_put (x := ⟨s.tr, G.lst s, G.now⟩) hok.ops).symm)), h.nd, h.all, hc⟩
        · rw [if_neg (fun e => absurd (show (1 : Nat) = 2 from e.2) (by omega))]
          rfl
theorem Once.closeDue : ∀ {f : Nat} {G : GSt}, G.Ok k → Once G I O S → Once (GSt.closeDue f G) I O S ∧ (GSt.closeDue f G).late = G.late
  | 0, G, _, h => ⟨h, rfl⟩
  | f + 1, G, hok, h => by
    unfold GSt.closeDue
    cases hf : GSt.first G.op with
    | none => exact ⟨h, rfl⟩
    | some x =>
      simp only
      split
      · have hx := (first_some hf).1
        have hxo := hok.opn x hx
        have hcap := hok.cap
        have hnum := hok.num
        have hdl := delOf_lt hx
        have hok' := hok.close x.t x.l ⟨hxo.1, hxo.2.2.1, by omega⟩ (by omega)
        have h' := h.close (t := x.t) (l := x.l) hxo.2.2.2.2.2 (h.perm.trans (List.Perm.append_left _ (List.Perm.append_left _ (opS_del hok.ops hx)))) h.chk
        exact Once.closeDue hok' h'
      · exact ⟨h, rfl⟩
theorem GSt.Ok.at (hok : G.Ok k) {n : Int} (h0 : 0 ≤ n) (h1 : n ≤ 1152921504606846976 - G.now) : (G.at (G.now + n)).Ok k :=
  { hok with
    now := ⟨by have := hok.now; show 0 ≤ G.now + n; omega, by show G.now + n ≤ _; omega⟩
    opn := fun x hx => by
      obtain ⟨q1, q2, q3, q4, q5, q6⟩ := hok.opn x hx
      exact ⟨q1, q2, q3, q4, by show x.time ≤ G.now + n; omega, q6⟩ }
theorem Once.tick (h : Once G I O S) (hok : G.Ok k) (n : Int) : Once (G.tick n).1 I O S ∧ (G.tick n).1.late = G.late := by
  rcases tick_two G n with h0 | ⟨-, h0⟩
  · obtain ⟨q1, q2⟩ := tick_ok h0
    rw [tick_eq q1 q2]
    exact Once.closeDue (hok.at q1 q2) ⟨h.perm, h.nd, h.all, h.chk⟩
  · rw [h0]
    exact ⟨h, rfl⟩
theorem Once.next (h : Once G I O S) {t : Tr} {l : List Sp} {cl : List (Tr × List Sp)} (hc : G.cl = (t, l) :: cl) : Once G.next I (O ++ l) (S ++ [t]) ∧ t ∉ S := by
  have e1 : G.next.cl = cl := by unfold GSt.next; rw [hc]; rfl
  have e2 : S ++ [t] ++ G.next.cl.map (·.1) = S ++ G.cl.map (·.1) := by rw [e1, hc]; simp
  refine ⟨⟨?_, ?_, ?_, h.chk⟩, ?_⟩
  · rw [e1]
    have hp := h.perm
    rw [hc] at hp
    have e3 : clSs ((t, l) :: cl) = l ++ clSs cl := rfl
    rw [e3, List.append_assoc, ← List.append_assoc O] at hp
    exact hp
  · rw [e2]
    exact h.nd
  · intro u hu
    rw [e2] at hu
    exact h.all u hu
  · intro hm
    have hn := h.nd
    rw [hc, List.map_cons] at hn
    exact (List.nodup_append.1 hn).2.2 t hm t (List.mem_cons_self ..) rfl
theorem closeDue_all : ∀ {f : Nat} {G : GSt}, G.op.length ≤ f → (∀ x ∈ G.op, G.win ≤ G.now - x.time) → (GSt.closeDue f G).op = []
  | 0, G, h, _ => List.eq_nil_of_length_eq_zero (by have : G.op.length = 0 := by omega
                                                    exact this)
  | f + 1, G, h, hd => by
    unfold GSt.closeDue
    cases hf : GSt.first G.op with
    | none => exact first_none hf
    | some x =>
      have hx := (first_some hf).1
      simp only
      rw [if_pos (hd x hx)]
      have h1 := delOf_lt hx
      exact closeDue_all (f := f) (G := G.close x.t x.l) (by rw [close_op]; omega) fun y hy => hd y (mem_delOf.1 hy).1
theorem tick_win (hok : G.Ok k) (hn : G.now ≤ 1152921504606846976 - G.win) : (G.tick G.win).1.op = [] := by
  have hw := hok.win
  rw [tick_eq (by omega) (by omega)]
  exact closeDue_all (Nat.le_refl _) fun x hx => by
    have := hok.opn x hx
    show G.win ≤ G.now + G.win - x.time
    omega
theorem Once.done (h : Once G I O S) (hop : G.op = []) (hcl : G.cl = []) : I.Perm O := by
  have := h.perm
  rw [hop, hcl] at this
  simpa [opS, clSs] using this
end
end Go.Proofs.YtoojpagpkbcfjaaGreat


/- Layer 20, the document's side: close, walked (printed by tools/genGaR.py out of tools/genRgF.txt). -/
namespace Go.Proofs.YtoojpagpkbcfjaaGreat
open Go.RowKit
attribute [local go_sem ↓] loadTr_shut appKG_shut storeKO_shut loadOT_shut
section
variable {base F : Nat} {w w' : World} {K K' Z Z' : Nat → Prop} {G : GSt} {m : RM}
theorem delOf_at {l : List Opn} {i : Nat} {x : Opn} (hs : OpS l) (hi : l[i]? = some x) : GSt.delOf x.t l = l.take i ++ l.drop (i + 1) := by
  induction l generalizing i with
  | nil => cases hi
  | cons y l ih =>
    have hne := hs.ne
    cases i with
    | zero =>
      cases hi
      have h1 : GSt.delOf x.t (x :: l) = GSt.delOf x.t l := by simp [GSt.delOf]
      rw [h1, delOf_none hne]
      rfl
    | succ i =>
      have hx : x ∈ l := List.mem_of_getElem? (by simpa using hi)
      have h1 : GSt.delOf x.t (y :: l) = y :: GSt.delOf x.t l := by
        unfold GSt.delOf
        rw [List.filter_cons, if_pos (by simpa using fun e => hne x hx e.symm)]
      rw [h1, ih (List.Pairwise.of_cons hs) (by simpa using hi)]
      rfl
/-- What close comes to. -/
def RCloseP (base : Nat) (w : World) (K Z : Nat → Prop) (F : Nat) (G : GSt) (ex : OE) (e : Ending) (w' : World) : Prop :=
  e = .returned (.tuple #[]) ∧ ∃ K' Z' m', Gro w w' K K' Z Z' ∧ Rga base w' K' Z' F (G.close ex.t (sps ex.l)) m'
set_option maxRecDepth 100000 in
set_option maxHeartbeats 4000000 in
theorem rgClose (h : Rga base w K Z F G m) (hs : OpS G.op) {i : Nat} {ex : OE} (hi : m.oe[i]? = some ex) (hce : m.ce.length ≤ 1000000) (hal : G.all.length ≤ 1000000) (hol : m.oe.length ≤ 1000000) (hxl : ex.l.length ≤ 100000) (htg : ∀ e ∈ ex.l, e.n ≤ 1000000) :
    Calls Tryz.prog 38 #[ptV F, .int .i64 i] w (RCloseP base w K Z F G ex) := by
  obtain ⟨no, hno⟩ : ∃ no, m.oe.length = no := ⟨_, rfl⟩
  have hil : i < no := by rw [← hno]; exact (List.getElem?_eq_some_iff.1 hi).1
  have ho := h.o
  obtain ⟨A, c, hv, hnc, -⟩ := own_form ho
  rw [hv] at ho
  rw [hno] at ho hv hol hnc
  obtain ⟨b, o, rfl, -, hcells⟩ := flatR_at oeC_length (by omega) (Rd.of_own ho) hi
  have c4 : w.cell? ⟨F, 4, none⟩ = some (.slice (some ⟨b, o, none⟩) no c) := by rw [h.blk.cell 4, ← hv]; rfl
  have hil' : (i : Int) < (no : Int) := by omega
  have l0 := ldOT (w := w) (b := b) (o := o + i * 4) (e := ex) fun j hj => by
    rw [Nat.add_assoc]
    exact hcells j hj
  obtain ⟨w1, s1, k1, f1⟩ := oeBox ex (Bk.new w 79 #[.int .u64 0, .int .u64 0, .slice none 0 0, .int .i64 0]) rfl
  obtain ⟨r, hr⟩ : ∃ r, w.heap.size = r := ⟨_, rfl⟩
  have f01 : FrK w w1 Kno := ((FrK.refl w Kno).alloc _).trans f1 fun b hb e => absurd (show b = w.heap.size from e) (by omega)
  rw [hr] at s1 k1
  have s1' : (storeKO 79 ⟨w.heap.size, 0, none⟩ (oeV ex)).run Tryz.prog (w.alloc (.cells #[.int .u64 0, .int .u64 0, .slice none 0 0, .int .i64 0] 79)) = .ok () w1 := by
    rw [hr]
    exact s1
  have h1 := h.below (f01.below (Nat.le_refl _) fun _ e => e.elim)
  have h2 := h1.below (Below.refl _ w1).drew
  have b2 : Bk w1.drew r 79 (oeC ex).toArray := k1
  have S0 := Rga.rcS h2.blk b2
  have hexm := List.mem_of_getElem? hi
  have hrd : RbS w1.drew w1.drew.heap.size ex.A ex.l := ⟨Rd.of_own (h2.row ex hexm), fun e he => (h2.el ex hexm e he).ok⟩
  have CP := Lib.hid (rOrderZ (c := ex.c) w1.drew hrd rfl (Nat.le_refl _) hxl htg)
  have H2 := Lib.hid h2
  have B2 := Lib.hid b2
  have HR := Lib.hid hr
  have HV := Lib.hid hv
  have HI := Lib.hid hi
  have HNO := Lib.hid hno
  have HNC := Lib.hid hnc
  have HOP := Lib.hid (h.at hi)
  have HOE := Lib.hid h.oE.symm
  have HF01 := Lib.hid f01
  have HS := Lib.hid hs
  obtain ⟨lx, hlx⟩ : ∃ lx, ex.l.length = lx := ⟨_, rfl⟩
  have hSv : (oeR ex) = .slice ex.A lx ex.c := by rw [← hlx]
  rw [hlx] at CP
  rw [show oeR ex = .slice ex.A lx ex.c from hSv] at S0
  have HSV := Lib.hid hSv
  have hoe : oeV ex = .agg #[.int .u64 (ex.t.hi : Nat), .int .u64 (ex.t.lo : Nat), .slice ex.A lx ex.c, .int .i64 ex.time] := by rw [← hlx]
  rw [hoe] at l0 s1'
  clear h h1 h2 b2 hrd ho hv hcells s1 k1 f1 f01 hr hi hno hs htg hexm hlx hSv hoe
  go_enter Tryz.func38, Tryz.ntmps38
  go_wp2_with fail
  rw [HR.out]
  refine wp_region_K (k := 15) (S := RcS F r m ex.t (.slice ex.A lx ex.c)) (by kernel_rfl) S0 (fun hHeld => ?_)
  simp only [List.size_toArray, List.length_cons, List.length_nil, Nat.zero_add, Nat.reduceAdd]
  refine' wpAnyK_take (k := 15) (i := 0) ?o0 (by kernel_rfl) (by kernel_rfl) (by kernel_rfl) (by kernel_rfl) (by kernel_rfl) ?q0 hHeld ?hw0 ?hy0 ?_
  case o0 => (simp only [List.getElem?_toArray, List.getElem?_cons_succ, List.getElem?_cons_zero]; rfl)
  case q0 => exact fun _ _ _ h => h
  case hw0 => rfl
  case hy0 => (intro w hSw; (try unfold RcS at hSw); (try dsimp only at hSw); go_simp; try (with_reducible rfl))
  simp only [Act.put, List.setIfInBounds_toArray, List.set_cons_zero, List.set_cons_succ]
  refine' wpAnyK_take (k := 15) (i := 1) ?o1 (by kernel_rfl) (by kernel_rfl) (by kernel_rfl) (by kernel_rfl) (by kernel_rfl) ?q1 hHeld ?hw1 ?hy1 ?_
  case o1 => (simp only [List.getElem?_toArray, List.getElem?_cons_succ, List.getElem?_cons_zero]; rfl)
  case q1 => exact fun _ _ _ h => h
  case hw1 => rfl
  case hy1 => (intro w hSw; (try unfold RcS at hSw); (try dsimp only at hSw); go_simp; try (with_reducible rfl))
  simp only [Act.put, List.setIfInBounds_toArray, List.set_cons_zero, List.set_cons_succ]
  refine' wpAnyK_take (k := 15) (i := 2) ?o2 (by kernel_rfl) (by kernel_rfl) (by kernel_rfl) (by kernel_rfl) (by kernel_rfl) ?q2 hHeld ?hw2 ?hy2 ?_
  case o2 => (simp only [List.getElem?_toArray, List.getElem?_cons_succ, List.getElem?_cons_zero]; rfl)
  case q2 => exact fun _ _ _ h => h
  case hw2 => rfl
  case hy2 => (intro w hSw; (try unfold RcS at hSw); (try dsimp only at hSw); go_simp; try (with_reducible rfl))
  simp only [Act.put, List.setIfInBounds_toArray, List.set_cons_zero, List.set_cons_succ]
  refine' wpAnyK_take (k := 15) (i := 3) ?o3 (by kernel_rfl) (by kernel_rfl) (by kernel_rfl) (by kernel_rfl) (by kernel_rfl) ?q3 hHeld ?hw3 ?hy3 ?_
  case o3 => (simp only [List.getElem?_toArray, List.getElem?_cons_succ, List.getElem?_cons_zero]; rfl)
  case q3 => exact fun _ _ _ h => h
  case hw3 => rfl
  case hy3 => (intro w hSw; (try unfold RcS at hSw); (try dsimp only at hSw); go_simp; try (with_reducible rfl))
  simp only [Act.put, List.setIfInBounds_toArray, List.set_cons_zero, List.set_cons_succ]
  refine' wpAnyK_take (k := 15) (i := 4) ?o4 (by kernel_rfl) (by kernel_rfl) (by kernel_rfl) (by kernel_rfl) (by kernel_rfl) ?q4 hHeld ?hw4 ?hy4 ?_
  case o4 => (simp only [List.getElem?_toArray, List.getElem?_cons_succ, List.getElem?_cons_zero]; rfl)
  case q4 => exact fun _ _ _ h => h
  case hw4 => rfl
  case hy4 => (intro w hSw; (try unfold RcS at hSw); (try dsimp only at hSw); go_simp; try (with_reducible rfl))
  simp only [Act.put, List.setIfInBounds_toArray, List.set_cons_zero, List.set_cons_succ]
  refine' wpAnyK_take (k := 15) (i := 5) ?o5 (by kernel_rfl) (by kernel_rfl) (by kernel_rfl) (by kernel_rfl) (by kernel_rfl) ?q5 hHeld ?hw5 ?hy5 ?_
  case o5 => (simp only [List.getElem?_toArray, List.getElem?_cons_succ, List.getElem?_cons_zero]; rfl)
  case q5 => exact fun _ _ _ h => h
  case hw5 => rfl
  case hy5 => (intro w hSw; (try unfold RcS at hSw); (try dsimp only at hSw); go_simp; try (with_reducible rfl))
  simp only [Act.put, List.setIfInBounds_toArray, List.set_cons_zero, List.set_cons_succ]
  refine' wpAnyK_take (k := 15) (i := 6) ?o6 (by kernel_rfl) (by kernel_rfl) (by kernel_rfl) (by kernel_rfl) (by kernel_rfl) ?q6 hHeld ?hw6 ?hy6 ?_
  case o6 => (simp only [List.getElem?_toArray, List.getElem?_cons_succ, List.getElem?_cons_zero]; rfl)
  case q6 => exact fun _ _ _ h => h
  case hw6 => rfl
  case hy6 => (intro w hSw; (try unfold RcS at hSw); (try dsimp only at hSw); go_simp; try (with_reducible rfl))
  simp only [Act.put, List.setIfInBounds_toArray, List.set_cons_zero, List.set_cons_succ]
  refine' wpAnyK_take (k := 15) (i := 7) ?o7 (by kernel_rfl) (by kernel_rfl) (by kernel_rfl) (by kernel_rfl) (by kernel_rfl) ?q7 hHeld ?hw7 ?hy7 ?_
  case o7 => (simp only [List.getElem?_toArray, List.getElem?_cons_succ, List.getElem?_cons_zero]; rfl)
  case q7 => exact fun _ _ _ h => h
  case hw7 => rfl
  case hy7 => (intro w hSw; (try unfold RcS at hSw); (try dsimp only at hSw); go_simp; try (with_reducible rfl))
  simp only [Act.put, List.setIfInBounds_toArray, List.set_cons_zero, List.set_cons_succ]
  refine' wpAnyK_take (k := 15) (i := 8) ?o8 (by kernel_rfl) (by kernel_rfl) (by kernel_rfl) (by kernel_rfl) (by kernel_rfl) ?q8 hHeld ?hw8 ?hy8 ?_
  case o8 => (simp only [List.getElem?_toArray, List.getElem?_cons_succ, List.getElem?_cons_zero]; rfl)
  case q8 => exact fun _ _ _ h => h
  case hw8 => rfl
  case hy8 => (intro w hSw; (try unfold RcS at hSw); (try dsimp only at hSw); go_simp; try (with_reducible rfl))
  simp only [Act.put, List.setIfInBounds_toArray, List.set_cons_zero, List.set_cons_succ]
  refine' wpAnyK_step (k := 15) (i := 9) (by kernel_rfl) ?o9 ?hw9 ?_
  case o9 => (simp only [List.getElem?_toArray, List.getElem?_cons_succ, List.getElem?_cons_zero]; rfl)
  case hw9 => rfl
  intro KK hKK
  go_simp
  refine CP.out.mono ?_
  rintro e w5 ⟨A', c', l', rfl, hs5, hr5, hb5, hz5⟩
  obtain ⟨v', w7, J⟩ := H2.out.joinC B2.out hce hs5 hr5 hb5 hz5
  obtain ⟨hrun, J5, J6, J7, J8, J0, K8, Z8, m8, J9⟩ := J
  rw [HSV.out] at J5 J6 J7
  have HJ9 := Lib.hid J9
  clear hs5 hr5 hb5 hz5 J9
  go_wp2_with fail
  clear hHeld
  refine hKK.out _ _ J5 (fun hHeld => ?_)
  clear hKK KK
  try simp only [Act.put, List.setIfInBounds_toArray, List.set_cons_zero, List.set_cons_succ]
  refine' wpAnyK_take (k := 15) (i := 10) ?o10 (by kernel_rfl) (by kernel_rfl) (by kernel_rfl) (by kernel_rfl) (by kernel_rfl) ?q10 hHeld ?hw10 ?hy10 ?_
  case o10 => (simp only [List.getElem?_toArray, List.getElem?_cons_succ, List.getElem?_cons_zero]; rfl)
  case q10 => exact fun _ _ _ h => h
  case hw10 => rfl
  case hy10 => (intro w hSw; (try unfold RcS at hSw); (try dsimp only at hSw); go_simp; try (with_reducible rfl))
  simp only [Act.put, List.setIfInBounds_toArray, List.set_cons_zero, List.set_cons_succ]
  refine' wpAnyK_step (k := 15) (i := 11) (by kernel_rfl) ?o11 ?hw11 ?_
  case o11 => (simp only [List.getElem?_toArray, List.getElem?_cons_succ, List.getElem?_cons_zero]; rfl)
  case hw11 => rfl
  intro KK hKK
  go_simp
  clear hHeld
  refine hKK.out _ _ J6 (fun hHeld => ?_)
  clear hKK KK
  try simp only [Act.put, List.setIfInBounds_toArray, List.set_cons_zero, List.set_cons_succ]
  refine' wpAnyK_step (k := 15) (i := 12) (by kernel_rfl) ?o12 ?hw12 ?_
  case o12 => (simp only [List.getElem?_toArray, List.getElem?_cons_succ, List.getElem?_cons_zero]; rfl)
  case hw12 => rfl
  intro KK hKK
  go_simp
  clear hHeld
  refine hKK.out _ _ J7 (fun hHeld => ?_)
  clear hKK KK
  try simp only [Act.put, List.setIfInBounds_toArray, List.set_cons_zero, List.set_cons_succ]
  refine' wpAnyK_step (k := 15) (i := 13) (by kernel_rfl) ?o13 ?hw13 ?_
  case o13 => (simp only [List.getElem?_toArray, List.getElem?_cons_succ, List.getElem?_cons_zero]; rfl)
  case hw13 => rfl
  intro KK hKK
  go_simp
  clear hHeld
  refine hKK.out _ _ J7 (fun hHeld => ?_)
  clear hKK KK
  try simp only [Act.put, List.setIfInBounds_toArray, List.set_cons_zero, List.set_cons_succ]
  refine' wpAnyK_step (k := 15) (i := 14) (by kernel_rfl) ?o14 ?hw14 ?_
  case o14 => (simp only [List.getElem?_toArray, List.getElem?_cons_succ, List.getElem?_cons_zero]; rfl)
  case hw14 => rfl
  intro KK hKK
  go_simp
  clear hHeld
  refine hKK.out _ _ J7 (fun hHeld => ?_)
  clear hKK KK
  try simp only [Act.put, List.setIfInBounds_toArray, List.set_cons_zero, List.set_cons_succ]
  refine wpAnyK_cut (by kernel_rfl) (by simp only [List.getElem?_toArray, List.getElem?_cons_succ, List.getElem?_cons_zero]; rfl) (by kernel_rfl) (by kernel_rfl) (by rfl) ?_
  have c57 := hHeld.1
  obtain ⟨A8, n8, d8, rfl⟩ : ∃ A8 n8 d8, v' = .slice A8 n8 d8 := J0
  go_simp
  obtain ⟨G8, e8o, e8v, e8a, R8, B8⟩ := HJ9.out
  obtain ⟨w8, e8⟩ : ∃ w8, w7.setCell ⟨F, 5, none⟩ (.slice A8 n8 d8) = w8 := ⟨_, rfl⟩
  rw [e8] at G8 R8 B8 ⊢
  clear hHeld hrun J5 J6 J7 J8 c57 e8 HJ9 CP
  -- All
  obtain ⟨Aa, ca, hva, -, -⟩ := own_form R8.all
  obtain ⟨na, hna⟩ : ∃ na, G.all.length = na := ⟨_, rfl⟩
  have hva : m8.av = .slice Aa na ca := by rw [← hna]; exact hva
  have c68 : w8.drew.cell? ⟨F, 6, none⟩ = some (.slice Aa na ca) := by rw [show w8.drew.cell? ⟨F, 6, none⟩ = w8.cell? ⟨F, 6, none⟩ from rfl, R8.blk.cell 6, ← hva]; rfl
  have t8 : (loadK 37 ⟨r, 0, none⟩).run Tryz.prog w8.drew = .ok (trV ex.t) w8.drew := ldTrB (o := 0) (a := ex.t.hi) (b := ex.t.lo) (show Bk w8.drew r _ _ from B8) rfl rfl
  have R8d := R8.below (Below.refl _ w8).drew
  have R9 := R8d.below ((Below.refl _ w8.drew).alloc (Nat.le_refl _) (.cells (trC ex.t) 37))
  have B9 : Bk (w8.drew.alloc (.cells (trC ex.t) 37)) r 79 (oeC ex).toArray := Bk.alloc (show Bk w8.drew r _ _ from B8) _
  have lit9 : Bk (w8.drew.alloc (.cells (trC ex.t) 37)) w8.heap.size 37 (trC ex.t) := Bk.new w8.drew 37 (trC ex.t)
  have own9 := R9.all
  rw [show m8.av = _ from hva, show ({ G with cl := G.cl ++ [(ex.t, ordS (sps ex.l))] } : GSt).all.length = na from hna] at own9
  obtain ⟨A10, c10, w10, hrun10, own10, gr10, bl10⟩ := run_appT2 own9 R9.baseLe (by omega) lit9
  have hrun10' : (appKG #[54, 54] 54 #[.slice Aa na ca, .slice (some ⟨w8.heap.size, 0, none⟩) 1 1]).run Tryz.prog ((w8.alloc (.cells #[.int .u64 (ex.t.hi : Nat), .int .u64 (ex.t.lo : Nat)] 37)).drew) = .ok (.slice A10 (na + 1) c10) w10 := hrun10
  clear hrun10
  have f9 : FrK w8 (w8.drew.alloc (.cells (trC ex.t) 37)) (fun b => b = F ∨ m8.av.ownBlock = some b) := ((FrK.refl w8 _).drew).alloc _
  have f910 : FrK (w8.drew.alloc (.cells (trC ex.t) 37)) w10 (fun b => m8.av.ownBlock = some b) := FrK.of_grown gr10 fun b _ e => by rw [hva]; exact e
  have hneF : m8.av.ownBlock ≠ some F := fun e => by
    obtain ⟨cur, hc⟩ := own_bk R9.all e
    exact ne_of_type hc R9.blk (by decide) rfl
  have hneR : m8.av.ownBlock ≠ some r := fun e => by
    obtain ⟨cur, hc⟩ := own_bk R9.all e
    exact ne_of_type hc B9 (by decide) rfl
  have k10 := f910.bk R9.blk hneF
  have B10 := f910.bk B9 hneR
  have c69 : (w8.drew.alloc (.cells (trC ex.t) 37)).cell? ⟨F, 6, none⟩ = some (.slice Aa na ca) := by rw [R9.blk.cell 6, ← hva]; rfl
  have t9 : (loadK 37 ⟨r, 0, none⟩).run Tryz.prog (w8.drew.alloc (.cells (trC ex.t) 37)) = .ok (trV ex.t) (w8.drew.alloc (.cells (trC ex.t) 37)) := ldTrB (o := 0) (a := ex.t.hi) (b := ex.t.lo) B9 rfl rfl
  have c610 : w10.cell? ⟨F, 6, none⟩ = some (.slice Aa na ca) := by rw [k10.cell 6, ← hva]; rfl
  have t10 : (loadK 37 ⟨r, 0, none⟩).run Tryz.prog w10 = .ok (trV ex.t) w10 := ldTrB (o := 0) (a := ex.t.hi) (b := ex.t.lo) B10 rfl rfl
  have g610 := k10.frozen 6
  have f10s := FrK.set w10 F 6 (.slice A10 (na + 1) c10)
  have hF10 : (Value.slice A10 (na + 1) c10).ownBlock ≠ some F := fun e => by
    obtain ⟨cur, hc⟩ := own_bk own10 e
    exact ne_of_type hc k10 (by decide) rfl
  have B11 := f10s.bk B10 (ne_of_type B10 k10 (by decide))
  obtain ⟨K11, G11, R11⟩ := R8.addA (w' := w10.setCell ⟨F, 6, none⟩ (.slice A10 (na + 1) c10)) (v' := .slice A10 (na + 1) c10) (t := ex.t) ((f9.trans f910 fun _ _ e => .inr e).trans f10s fun b _ e => .inl e) (k10.set 6 _)
    (by
      have h1 : (({ G with cl := G.cl ++ [(ex.t, ordS (sps ex.l))] } : GSt).all ++ [ex.t]).length = na + 1 := by rw [List.length_append]; exact congrArg (· + 1) hna
      rw [h1]
      exact own_of own10 fun g e => f10s.block g (own10.lt g e).2 fun e2 => hF10 ((show g = F from e2) ▸ e))
    (fun g e => by
      rcases bl10 with e2 | e2
      · exact .inl (by rw [hva, ← e2]; exact e)
      · rw [e2] at e
        cases e
        exact .inr (by have : w8.heap.size ≤ (w8.drew.alloc (.cells (trC ex.t) 37)).heap.size := f9.size; omega))
  obtain ⟨w11, e11⟩ : ∃ w11, w10.setCell ⟨F, 6, none⟩ (.slice A10 (na + 1) c10) = w11 := ⟨_, rfl⟩
  rw [e11] at G11 R11 B11
  have E11 := Lib.hid e11
  have HR8 := Lib.hid (And.intro e8o (And.intro e8v G8))
  have HR11 := Lib.hid R11
  have HG11 := Lib.hid G11
  have HB11 := Lib.hid B11
  clear R8d R9 B9 lit9 own9 own10 gr10 bl10 f9 f910 hneF hneR k10 B10 f10s hF10 e11 R8 B8 e8o e8v e8a G8 G11 R11 B11 hva hna
  go_wp2_with fail
  refine wp_region_K (k := 11) (S := fun w' => w'.cell? ⟨F, 6, none⟩ = some (.slice Aa na ca) ∧ (loadK 37 ⟨r, 0, none⟩).run Tryz.prog w' = .ok (trV ex.t) w') (by kernel_rfl) ⟨c68, t8⟩ (fun hHeld => ?_)
  simp only [List.size_toArray, List.length_cons, List.length_nil, Nat.zero_add, Nat.reduceAdd]
  refine' wpAnyK_take (k := 11) (i := 0) ?o0 (by kernel_rfl) (by kernel_rfl) (by kernel_rfl) (by kernel_rfl) (by kernel_rfl) ?q0 hHeld ?hw0 ?hy0 ?_
  case o0 => (simp only [List.getElem?_toArray, List.getElem?_cons_succ, List.getElem?_cons_zero]; rfl)
  case q0 => exact fun _ _ _ h => h
  case hw0 => rfl
  case hy0 => (intro w hSw; (try unfold RcS at hSw); (try dsimp only at hSw); go_simp; try (with_reducible rfl))
  simp only [Act.put, List.setIfInBounds_toArray, List.set_cons_zero, List.set_cons_succ]
  refine' wpAnyK_take (k := 11) (i := 1) ?o1 (by kernel_rfl) (by kernel_rfl) (by kernel_rfl) (by kernel_rfl) (by kernel_rfl) ?q1 hHeld ?hw1 ?hy1 ?_
  case o1 => (simp only [List.getElem?_toArray, List.getElem?_cons_succ, List.getElem?_cons_zero]; rfl)
  case q1 => exact fun _ _ _ h => h
  case hw1 => rfl
  case hy1 => (intro w hSw; (try unfold RcS at hSw); (try dsimp only at hSw); go_simp; try (with_reducible rfl))
  simp only [Act.put, List.setIfInBounds_toArray, List.set_cons_zero, List.set_cons_succ]
  refine' wpAnyK_take (k := 11) (i := 2) ?o2 (by kernel_rfl) (by kernel_rfl) (by kernel_rfl) (by kernel_rfl) (by kernel_rfl) ?q2 hHeld ?hw2 ?hy2 ?_
  case o2 => (simp only [List.getElem?_toArray, List.getElem?_cons_succ, List.getElem?_cons_zero]; rfl)
  case q2 => exact fun _ _ _ h => h
  case hw2 => rfl
  case hy2 => (intro w hSw; (try unfold RcS at hSw); (try dsimp only at hSw); go_simp; try (with_reducible rfl))
  simp only [Act.put, List.setIfInBounds_toArray, List.set_cons_zero, List.set_cons_succ]
  refine' wpAnyK_take (k := 11) (i := 3) ?o3 (by kernel_rfl) (by kernel_rfl) (by kernel_rfl) (by kernel_rfl) (by kernel_rfl) ?q3 hHeld ?hw3 ?hy3 ?_
  case o3 => (simp only [List.getElem?_toArray, List.getElem?_cons_succ, List.getElem?_cons_zero]; rfl)
  case q3 => exact fun _ _ _ h => h
  case hw3 => rfl
  case hy3 => (intro w hSw; (try unfold RcS at hSw); (try dsimp only at hSw); go_simp; try (with_reducible rfl))
  simp only [Act.put, List.setIfInBounds_toArray, List.set_cons_zero, List.set_cons_succ]
  refine' wpAnyK_take (k := 11) (i := 4) ?o4 (by kernel_rfl) (by kernel_rfl) (by kernel_rfl) (by kernel_rfl) (by kernel_rfl) ?q4 hHeld ?hw4 ?hy4 ?_
  case o4 => (simp only [List.getElem?_toArray, List.getElem?_cons_succ, List.getElem?_cons_zero]; rfl)
  case q4 => exact fun _ _ _ h => h
  case hw4 => rfl
  case hy4 => (intro w hSw; (try unfold RcS at hSw); (try dsimp only at hSw); go_simp; try (with_reducible rfl))
  simp only [Act.put, List.setIfInBounds_toArray, List.set_cons_zero, List.set_cons_succ]
  refine' wpAnyK_take (k := 11) (i := 5) ?o5 (by kernel_rfl) (by kernel_rfl) (by kernel_rfl) (by kernel_rfl) (by kernel_rfl) ?q5 hHeld ?hw5 ?hy5 ?_
  case o5 => (simp only [List.getElem?_toArray, List.getElem?_cons_succ, List.getElem?_cons_zero]; rfl)
  case q5 => exact fun _ _ _ h => h
  case hw5 => rfl
  case hy5 => (intro w hSw; (try unfold RcS at hSw); (try dsimp only at hSw); go_simp; try (with_reducible rfl))
  simp only [Act.put, List.setIfInBounds_toArray, List.set_cons_zero, List.set_cons_succ]
  refine' wpAnyK_take (k := 11) (i := 6) ?o6 (by kernel_rfl) (by kernel_rfl) (by kernel_rfl) (by kernel_rfl) (by kernel_rfl) ?q6 hHeld ?hw6 ?hy6 ?_
  case o6 => (simp only [List.getElem?_toArray, List.getElem?_cons_succ, List.getElem?_cons_zero]; rfl)
  case q6 => exact fun _ _ _ h => h
  case hw6 => rfl
  case hy6 => (intro w hSw; (try unfold RcS at hSw); (try dsimp only at hSw); go_simp; try (with_reducible rfl))
  simp only [Act.put, List.setIfInBounds_toArray, List.set_cons_zero, List.set_cons_succ]
  refine' wpAnyK_step (k := 11) (i := 7) (by kernel_rfl) ?o7 ?hw7 ?_
  case o7 => (simp only [List.getElem?_toArray, List.getElem?_cons_succ, List.getElem?_cons_zero]; rfl)
  case hw7 => rfl
  intro KK hKK
  go_simp
  clear hHeld
  refine hKK.out _ _ ⟨c69, t9⟩ (fun hHeld => ?_)
  clear hKK KK
  try simp only [Act.put, List.setIfInBounds_toArray, List.set_cons_zero, List.set_cons_succ]
  refine' wpAnyK_step (k := 11) (i := 8) (by kernel_rfl) ?o8 ?hw8 ?_
  case o8 => (simp only [List.getElem?_toArray, List.getElem?_cons_succ, List.getElem?_cons_zero]; rfl)
  case hw8 => rfl
  intro KK hKK
  go_simp
  clear hHeld
  refine hKK.out _ _ ⟨c610, t10⟩ (fun hHeld => ?_)
  clear hKK KK
  try simp only [Act.put, List.setIfInBounds_toArray, List.set_cons_zero, List.set_cons_succ]
  refine' wpAnyK_step (k := 11) (i := 9) (by kernel_rfl) ?o9 ?hw9 ?_
  case o9 => (simp only [List.getElem?_toArray, List.getElem?_cons_succ, List.getElem?_cons_zero]; rfl)
  case hw9 => rfl
  intro KK hKK
  go_simp
  clear hHeld
  refine hKK.out _ _ ⟨c610, t10⟩ (fun hHeld => ?_)
  clear hKK KK
  try simp only [Act.put, List.setIfInBounds_toArray, List.set_cons_zero, List.set_cons_succ]
  refine' wpAnyK_step (k := 11) (i := 10) (by kernel_rfl) ?o10 ?hw10 ?_
  case o10 => (simp only [List.getElem?_toArray, List.getElem?_cons_succ, List.getElem?_cons_zero]; rfl)
  case hw10 => rfl
  intro KK hKK
  go_simp
  clear hHeld
  refine hKK.out _ _ ⟨c610, t10⟩ (fun hHeld => ?_)
  clear hKK KK
  try simp only [Act.put, List.setIfInBounds_toArray, List.set_cons_zero, List.set_cons_succ]
  refine wpAnyK_cut (by kernel_rfl) (by simp only [List.getElem?_toArray, List.getElem?_cons_succ, List.getElem?_cons_zero]; rfl) (by kernel_rfl) (by kernel_rfl) (by rfl) ?_
  clear hHeld
  go_simp
  clear c68 t8 c69 t9 c610 t10 hrun10' g610
  rw [E11.out]
  -- O
  have hcap : no ≤ c := HNC.out
  have hlen := HR11.out.oN
  have ho11 := HR11.out.o
  rw [show ({ m8 with av := Value.slice A10 (na + 1) c10 } : RM).oe = m.oe from HR8.out.1, show ({ m8 with av := Value.slice A10 (na + 1) c10 } : RM).ov = m.ov from HR8.out.2.1, HNO.out, show m.ov = _ from HV.out] at ho11
  have c411 : w11.drew.cell? ⟨F, 4, none⟩ = some (.slice (some ⟨b, o, none⟩) no c) := by
    rw [show w11.drew.cell? ⟨F, 4, none⟩ = w11.cell? ⟨F, 4, none⟩ from rfl, HR11.out.blk.cell 4, ← HV.out, ← HR8.out.2.1]
    rfl
  have hw1 : IntKind.i64.wrap ((i : Int) + 1) = (i : Int) + 1 := by simp [IntKind.wrap, IntKind.bits, IntKind.signed]; omega
  have hsl1 := fun W => run_slOh W (some ⟨b, o, none⟩) no c i (by omega)
  have hsl2 : ∀ W, (Instr.slice 70 (.slice (some ⟨b, o, none⟩) no c) (some (.int .i64 ((i : Int) + 1))) none none).run Tryz.prog W = .ok (.slice (cutA (some ⟨b, o, none⟩) c (i + 1) 4) (no - (i + 1)) (c - (i + 1))) W := fun W => run_slOl W (some ⟨b, o, none⟩) no c (i + 1) (by omega)
  obtain ⟨Ad, hAd⟩ : ∃ Ad, cutA (some (⟨b, o, none⟩ : Addr)) c (i + 1) 4 = Ad := ⟨_, rfl⟩
  rw [hAd] at hsl2
  have b12 : Below w11.heap.size w11 (w11.alloc (.cells #[] 79)).drew := ((Below.refl _ w11).alloc (Nat.le_refl _) _).drew
  obtain ⟨w12, e12⟩ : ∃ w12, (w11.alloc (.cells #[] 79)).drew = w12 := ⟨_, rfl⟩
  have own12 : w12.ownsRow w11.heap.size 79 4 (.slice (some ⟨w11.heap.size, 0, none⟩) 0 0) 0 (flatR oeC []) := by
    rw [← e12]
    exact World.ownsRow.drew (World.ownsRow_lit w11 #[] 0 (Nat.le_refl _) (by simp [maxLen]) rfl)
  rw [e12] at b12
  have R12 := HR11.out.below b12
  have rd12 : Rd w12 w12.heap.size (some ⟨b, o, none⟩) (flatR oeC m.oe) := Rd.more (Rd.below (Rd.of_own ho11) b12) b12.size
  have htl : (m.oe.take i).length = i := by rw [List.length_take, HNO.out]; omega
  have hdl : (m.oe.drop (i + 1)).length = no - (i + 1) := by rw [List.length_drop, HNO.out]
  obtain ⟨A13, c13, w13, hrun13, own13, gr13, bl13⟩ := run_appO (c := c) own12 b12.size (Rd.takeO rd12 i) htl (by omega)
  rw [Nat.zero_add, List.nil_append] at own13
  rw [Nat.zero_add] at hrun13 bl13
  have f13 : FrK w11 w13 Kno := (FrK.of_below b12 (Nat.le_refl _) Kno).trans (FrK.of_grown (K := fun q => w11.heap.size ≤ q) gr13 fun q _ e => (own12.lt q e).1) fun q hq e => absurd e (by omega)
  have b13 := f13.below (Nat.le_refl _) fun _ e => e.elim
  have R13 := HR11.out.below b13
  have rd13 : Rd w13 w13.heap.size (some ⟨b, o, none⟩) (flatR oeC m.oe) := Rd.more (Rd.below (Rd.of_own ho11) b13) b13.size
  have rd13' := Rd.dropO (k := i + 1) (cap := c) rd13 (by rw [HNO.out]; exact hcap)
  rw [hAd] at rd13'
  obtain ⟨A14, c14, w14, hrun14, own14, gr14, bl14⟩ := run_appO (c := c - (i + 1)) own13 b13.size rd13' hdl (by omega)
  obtain ⟨n14, hn14⟩ : ∃ n14, i + (no - (i + 1)) = n14 := ⟨_, rfl⟩
  rw [hn14] at own14 hrun14 bl14
  have f14 : FrK w11 w14 Kno := f13.trans (FrK.of_grown (K := fun q => w11.heap.size ≤ q) gr14 fun q _ e => (own13.lt q e).1) fun q hq e => absurd e (by omega)
  have b14 := f14.below (Nat.le_refl _) fun _ e => e.elim
  have R14 := HR11.out.below b14
  have c412 : w12.cell? ⟨F, 4, none⟩ = some (.slice (some ⟨b, o, none⟩) no c) := by rw [R12.blk.cell 4, ← HV.out, ← HR8.out.2.1]; rfl
  have c413 : w13.cell? ⟨F, 4, none⟩ = some (.slice (some ⟨b, o, none⟩) no c) := by rw [R13.blk.cell 4, ← HV.out, ← HR8.out.2.1]; rfl
  have c414 : w14.cell? ⟨F, 4, none⟩ = some (.slice (some ⟨b, o, none⟩) no c) := by rw [R14.blk.cell 4, ← HV.out, ← HR8.out.2.1]; rfl
  have g414 := R14.blk.frozen 4
  have fs := FrK.set w14 F 4 (.slice A14 n14 c14)
  have hF14 : (Value.slice A14 n14 c14).ownBlock ≠ some F := fun e => by
    obtain ⟨cur, hc⟩ := own_bk own14 e
    exact ne_of_type hc R14.blk (by decide) rfl
  have hln : (m.oe.take i ++ m.oe.drop (i + 1)).length = n14 := by rw [List.length_append, htl, hdl, hn14]
  have hlo11 := HR11.out.baseLe
  obtain ⟨K15, G15, R15⟩ := HR11.out.setO (w' := w14.setCell ⟨F, 4, none⟩ (.slice A14 n14 c14)) (v' := .slice A14 n14 c14) (oe' := m.oe.take i ++ m.oe.drop (i + 1)) (op' := GSt.delOf ex.t G.op) ((f14.mono (K' := fun q => q = F) fun _ _ e => e.elim).trans fs fun _ _ e => e) (R14.blk.set 4 _)
    (by
      rw [hln]
      refine own_lo (own_of own14 fun g e => fs.block g (own14.lt g e).2 fun e2 => hF14 ((show g = F from e2) ▸ e)) hlo11)
    (fun e he => by
      show e ∈ m8.oe
      rw [HR8.out.1]
      exact (List.mem_append.1 he).elim List.mem_of_mem_take List.mem_of_mem_drop)
    (by
      have h1 : G.op[i]? = some (oeO ex) := HOP.out
      have h2 : G.op = m.oe.map oeO := HOE.out
      rw [show ex.t = (oeO ex).t from rfl, delOf_at HS.out h1, h2, List.map_append, List.map_take, List.map_drop])
    (fun g e => .inr (own14.lt g e).1)
  have hGall : Gro w (w14.setCell ⟨F, 4, none⟩ (.slice A14 n14 c14)) K K15 Z Z8 := ((((Gro.refl ((HF01.out.mono (K' := K) fun _ _ e => e.elim).drew)).trans HR8.out.2.2).trans HG11.out).trans G15)
  have HFIN : Hid (RCloseP base w K Z F G ex (.returned (.tuple #[])) (w14.setCell ⟨F, 4, none⟩ (.slice A14 n14 c14))) := Lib.hid ⟨rfl, K15, Z8, _, hGall, R15⟩
  have E12 := Lib.hid e12
  have hrun14' : (appKG #[70, 70] 70 #[.slice A13 i c13, .slice Ad (no - (i + 1)) (c - (i + 1))]).run Tryz.prog w13 = .ok (.slice A14 n14 c14) w14 := hrun14
  clear hrun14 hGall G15 R15 hln hF14 fs R14 R13 R12 own14 gr14 bl14 f14 b14 own13 gr13 bl13 f13 b13 own12 rd12 rd13 rd13' b12 htl hdl e12 ho11 hlen hn14 hAd hcap hlo11
  go_wp2_with fail
  refine wp_region_K (k := 19) (S := fun w' => w'.cell? ⟨F, 4, none⟩ = some (.slice (some ⟨b, o, none⟩) no c)) (by kernel_rfl) c411 (fun hHeld => ?_)
  simp only [List.size_toArray, List.length_cons, List.length_nil, Nat.zero_add, Nat.reduceAdd]
  refine' wpAnyK_take (k := 19) (i := 0) ?o0 (by kernel_rfl) (by kernel_rfl) (by kernel_rfl) (by kernel_rfl) (by kernel_rfl) ?q0 hHeld ?hw0 ?hy0 ?_
  case o0 => (simp only [List.getElem?_toArray, List.getElem?_cons_succ, List.getElem?_cons_zero]; rfl)
  case q0 => exact fun _ _ _ h => h
  case hw0 => rfl
  case hy0 => (intro w hSw; (try unfold RcS at hSw); (try dsimp only at hSw); go_simp; try (with_reducible rfl))
  simp only [Act.put, List.setIfInBounds_toArray, List.set_cons_zero, List.set_cons_succ]
  refine' wpAnyK_take (k := 19) (i := 2) ?o2 (by kernel_rfl) (by kernel_rfl) (by kernel_rfl) (by kernel_rfl) (by kernel_rfl) ?q2 hHeld ?hw2 ?hy2 ?_
  case o2 => (simp only [List.getElem?_toArray, List.getElem?_cons_succ, List.getElem?_cons_zero]; rfl)
  case q2 => exact fun _ _ _ h => h
  case hw2 => rfl
  case hy2 => (intro w hSw; (try unfold RcS at hSw); (try dsimp only at hSw); go_simp; try (with_reducible rfl))
  simp only [Act.put, List.setIfInBounds_toArray, List.set_cons_zero, List.set_cons_succ]
  refine' wpAnyK_take (k := 19) (i := 3) ?o3 (by kernel_rfl) (by kernel_rfl) (by kernel_rfl) (by kernel_rfl) (by kernel_rfl) ?q3 hHeld ?hw3 ?hy3 ?_
  case o3 => (simp only [List.getElem?_toArray, List.getElem?_cons_succ, List.getElem?_cons_zero]; rfl)
  case q3 => exact fun _ _ _ h => h
  case hw3 => rfl
  case hy3 => (intro w hSw; (try unfold RcS at hSw); (try dsimp only at hSw); go_simp; try (with_reducible rfl))
  simp only [Act.put, List.setIfInBounds_toArray, List.set_cons_zero, List.set_cons_succ]
  refine' wpAnyK_take (k := 19) (i := 4) ?o4 (by kernel_rfl) (by kernel_rfl) (by kernel_rfl) (by kernel_rfl) (by kernel_rfl) ?q4 hHeld ?hw4 ?hy4 ?_
  case o4 => (simp only [List.getElem?_toArray, List.getElem?_cons_succ, List.getElem?_cons_zero]; rfl)
  case q4 => exact fun _ _ _ h => h
  case hw4 => rfl
  case hy4 => (intro w hSw; (try unfold RcS at hSw); (try dsimp only at hSw); go_simp; try (with_reducible rfl))
  simp only [Act.put, List.setIfInBounds_toArray, List.set_cons_zero, List.set_cons_succ]
  refine' wpAnyK_take (k := 19) (i := 5) ?o5 (by kernel_rfl) (by kernel_rfl) (by kernel_rfl) (by kernel_rfl) (by kernel_rfl) ?q5 hHeld ?hw5 ?hy5 ?_
  case o5 => (simp only [List.getElem?_toArray, List.getElem?_cons_succ, List.getElem?_cons_zero]; rfl)
  case q5 => exact fun _ _ _ h => h
  case hw5 => rfl
  case hy5 => (intro w hSw; (try unfold RcS at hSw); (try dsimp only at hSw); go_simp; try (with_reducible rfl))
  simp only [Act.put, List.setIfInBounds_toArray, List.set_cons_zero, List.set_cons_succ]
  refine' wpAnyK_take (k := 19) (i := 6) ?o6 (by kernel_rfl) (by kernel_rfl) (by kernel_rfl) (by kernel_rfl) (by kernel_rfl) ?q6 hHeld ?hw6 ?hy6 ?_
  case o6 => (simp only [List.getElem?_toArray, List.getElem?_cons_succ, List.getElem?_cons_zero]; rfl)
  case q6 => exact fun _ _ _ h => h
  case hw6 => rfl
  case hy6 => (intro w hSw; (try unfold RcS at hSw); (try dsimp only at hSw); go_simp; try (with_reducible rfl))
  simp only [Act.put, List.setIfInBounds_toArray, List.set_cons_zero, List.set_cons_succ]
  refine' wpAnyK_take (k := 19) (i := 7) ?o7 (by kernel_rfl) (by kernel_rfl) (by kernel_rfl) (by kernel_rfl) (by kernel_rfl) ?q7 hHeld ?hw7 ?hy7 ?_
  case o7 => (simp only [List.getElem?_toArray, List.getElem?_cons_succ, List.getElem?_cons_zero]; rfl)
  case q7 => exact fun _ _ _ h => h
  case hw7 => rfl
  case hy7 => (intro w hSw; (try unfold RcS at hSw); (try dsimp only at hSw); go_simp; try (with_reducible rfl))
  simp only [Act.put, List.setIfInBounds_toArray, List.set_cons_zero, List.set_cons_succ]
  refine' wpAnyK_take (k := 19) (i := 9) ?o9 (by kernel_rfl) (by kernel_rfl) (by kernel_rfl) (by kernel_rfl) (by kernel_rfl) ?q9 hHeld ?hw9 ?hy9 ?_
  case o9 => (simp only [List.getElem?_toArray, List.getElem?_cons_succ, List.getElem?_cons_zero]; rfl)
  case q9 => exact fun _ _ _ h => h
  case hw9 => rfl
  case hy9 => (intro w hSw; (try unfold RcS at hSw); (try dsimp only at hSw); go_simp; try (with_reducible rfl))
  simp only [Act.put, List.setIfInBounds_toArray, List.set_cons_zero, List.set_cons_succ]
  refine' wpAnyK_take (k := 19) (i := 10) ?o10 (by kernel_rfl) (by kernel_rfl) (by kernel_rfl) (by kernel_rfl) (by kernel_rfl) ?q10 hHeld ?hw10 ?hy10 ?_
  case o10 => (simp only [List.getElem?_toArray, List.getElem?_cons_succ, List.getElem?_cons_zero]; rfl)
  case q10 => exact fun _ _ _ h => h
  case hw10 => rfl
  case hy10 => (intro w hSw; (try unfold RcS at hSw); (try dsimp only at hSw); go_simp; try (with_reducible rfl))
  simp only [Act.put, List.setIfInBounds_toArray, List.set_cons_zero, List.set_cons_succ]
  refine' wpAnyK_take (k := 19) (i := 11) ?o11 (by kernel_rfl) (by kernel_rfl) (by kernel_rfl) (by kernel_rfl) (by kernel_rfl) ?q11 hHeld ?hw11 ?hy11 ?_
  case o11 => (simp only [List.getElem?_toArray, List.getElem?_cons_succ, List.getElem?_cons_zero]; rfl)
  case q11 => exact fun _ _ _ h => h
  case hw11 => rfl
  case hy11 => (intro w hSw; (try unfold RcS at hSw); (try dsimp only at hSw); go_simp; try (with_reducible rfl))
  simp only [Act.put, List.setIfInBounds_toArray, List.set_cons_zero, List.set_cons_succ]
  refine' wpAnyK_take (k := 19) (i := 12) ?o12 (by kernel_rfl) (by kernel_rfl) (by kernel_rfl) (by kernel_rfl) (by kernel_rfl) ?q12 hHeld ?hw12 ?hy12 ?_
  case o12 => (simp only [List.getElem?_toArray, List.getElem?_cons_succ, List.getElem?_cons_zero]; rfl)
  case q12 => exact fun _ _ _ h => h
  case hw12 => rfl
  case hy12 => (intro w hSw; (try unfold RcS at hSw); (try dsimp only at hSw); go_simp; try (with_reducible rfl))
  simp only [Act.put, List.setIfInBounds_toArray, List.set_cons_zero, List.set_cons_succ]
  refine' wpAnyK_take (k := 19) (i := 13) ?o13 (by kernel_rfl) (by kernel_rfl) (by kernel_rfl) (by kernel_rfl) (by kernel_rfl) ?q13 hHeld ?hw13 ?hy13 ?_
  case o13 => (simp only [List.getElem?_toArray, List.getElem?_cons_succ, List.getElem?_cons_zero]; rfl)
  case q13 => exact fun _ _ _ h => h
  case hw13 => rfl
  case hy13 => (intro w hSw; (try unfold RcS at hSw); (try dsimp only at hSw); go_simp; try (with_reducible rfl))
  simp only [Act.put, List.setIfInBounds_toArray, List.set_cons_zero, List.set_cons_succ]
  refine' wpAnyK_take (k := 19) (i := 14) ?o14 (by kernel_rfl) (by kernel_rfl) (by kernel_rfl) (by kernel_rfl) (by kernel_rfl) ?q14 hHeld ?hw14 ?hy14 ?_
  case o14 => (simp only [List.getElem?_toArray, List.getElem?_cons_succ, List.getElem?_cons_zero]; rfl)
  case q14 => exact fun _ _ _ h => h
  case hw14 => rfl
  case hy14 => (intro w hSw; (try unfold RcS at hSw); (try dsimp only at hSw); go_simp; try (with_reducible rfl))
  simp only [Act.put, List.setIfInBounds_toArray, List.set_cons_zero, List.set_cons_succ]
  refine' wpAnyK_take (k := 19) (i := 15) ?o15 (by kernel_rfl) (by kernel_rfl) (by kernel_rfl) (by kernel_rfl) (by kernel_rfl) ?q15 hHeld ?hw15 ?hy15 ?_
  case o15 => (simp only [List.getElem?_toArray, List.getElem?_cons_succ, List.getElem?_cons_zero]; rfl)
  case q15 => exact fun _ _ _ h => h
  case hw15 => rfl
  case hy15 => (intro w hSw; (try unfold RcS at hSw); (try dsimp only at hSw); go_simp; try (with_reducible rfl))
  simp only [Act.put, List.setIfInBounds_toArray, List.set_cons_zero, List.set_cons_succ]
  refine' wpAnyK_step (k := 19) (i := 1) (by kernel_rfl) ?o1 ?hw1 ?_
  case o1 => (simp only [List.getElem?_toArray, List.getElem?_cons_succ, List.getElem?_cons_zero]; rfl)
  case hw1 => rfl
  intro KK hKK
  go_simp
  clear hHeld
  rw [E12.out]
  refine hKK.out _ _ c412 (fun hHeld => ?_)
  clear hKK KK
  try simp only [Act.put, List.setIfInBounds_toArray, List.set_cons_zero, List.set_cons_succ]
  refine' wpAnyK_step (k := 19) (i := 8) (by kernel_rfl) ?o8 ?hw8 ?_
  case o8 => (simp only [List.getElem?_toArray, List.getElem?_cons_succ, List.getElem?_cons_zero]; rfl)
  case hw8 => rfl
  intro KK hKK
  go_simp
  clear hHeld
  refine hKK.out _ _ c413 (fun hHeld => ?_)
  clear hKK KK
  try simp only [Act.put, List.setIfInBounds_toArray, List.set_cons_zero, List.set_cons_succ]
  refine' wpAnyK_step (k := 19) (i := 16) (by kernel_rfl) ?o16 ?hw16 ?_
  case o16 => (simp only [List.getElem?_toArray, List.getElem?_cons_succ, List.getElem?_cons_zero]; rfl)
  case hw16 => rfl
  intro KK hKK
  go_simp
  clear hHeld
  refine hKK.out _ _ c414 (fun hHeld => ?_)
  clear hKK KK
  try simp only [Act.put, List.setIfInBounds_toArray, List.set_cons_zero, List.set_cons_succ]
  refine' wpAnyK_step (k := 19) (i := 17) (by kernel_rfl) ?o17 ?hw17 ?_
  case o17 => (simp only [List.getElem?_toArray, List.getElem?_cons_succ, List.getElem?_cons_zero]; rfl)
  case hw17 => rfl
  intro KK hKK
  go_simp
  clear hHeld
  refine hKK.out _ _ c414 (fun hHeld => ?_)
  clear hKK KK
  try simp only [Act.put, List.setIfInBounds_toArray, List.set_cons_zero, List.set_cons_succ]
  refine' wpAnyK_step (k := 19) (i := 18) (by kernel_rfl) ?o18 ?hw18 ?_
  case o18 => (simp only [List.getElem?_toArray, List.getElem?_cons_succ, List.getElem?_cons_zero]; rfl)
  case hw18 => rfl
  intro KK hKK
  go_simp
  clear hHeld
  refine hKK.out _ _ c414 (fun hHeld => ?_)
  clear hKK KK
  try simp only [Act.put, List.setIfInBounds_toArray, List.set_cons_zero, List.set_cons_succ]
  refine wpAnyK_cut (by kernel_rfl) (by simp only [List.getElem?_toArray, List.getElem?_cons_succ, List.getElem?_cons_zero]; rfl) (by kernel_rfl) (by kernel_rfl) (by rfl) ?_
  clear hHeld
  go_simp
  go_wp2_with fail
  go_end0
  exact HFIN.out
end
end Go.Proofs.YtoojpagpkbcfjaaGreat


/- Layer 20, the document's side: Due. -/
namespace Go.Proofs.YtoojpagpkbcfjaaGreat
open Go.RowKit
def dueM (G : GSt) (l : List Opn) : Int := l.foldl (fun n x => min n (x.time + G.win - G.now)) 1152921504606846976
theorem foldl_min_le (f : Opn → Int) : ∀ (l : List Opn) (a : Int), l.foldl (fun n x => min n (f x)) a ≤ a ∧ (∀ x ∈ l, l.foldl (fun n x => min n (f x)) a ≤ f x) ∧ (l.foldl (fun n x => min n (f x)) a = a ∨ ∃ x ∈ l, l.foldl (fun n x => min n (f x)) a = f x)
  | [], a => ⟨Int.le_refl _, (fun x h => by cases h), .inl rfl⟩
  | y :: l, a => by
    obtain ⟨h1, h2, h3⟩ := foldl_min_le f l (min a (f y))
    simp only [List.foldl_cons]
    refine ⟨by omega, fun x hx => ?_, ?_⟩
    · rcases List.mem_cons.1 hx with rfl | hx
      · omega
      · exact h2 x hx
    · rcases h3 with h3 | ⟨x, hx, h3⟩
      · by_cases hm : a ≤ f y
        · exact .inl (by omega)
        · exact .inr ⟨y, List.mem_cons_self .., by omega⟩
      · exact .inr ⟨x, List.mem_cons_of_mem _ hx, h3⟩
theorem due_min {k : Nat} {G : GSt} (h : G.Ok k) (hne : G.op ≠ []) : dueM G G.op = G.due := by
  obtain ⟨h1, h2, h3⟩ := foldl_min_le (fun x => x.time + G.win - G.now) G.op 1152921504606846976
  have hd : G.due = match GSt.first G.op with | none => 0 | some x => x.time + G.win - G.now := rfl
  cases hf : GSt.first G.op with
  | none => exact absurd (first_none hf) hne
  | some x =>
    rw [hf] at hd
    simp only at hd
    obtain ⟨hx, hmin⟩ := first_some hf
    have hw := h.win
    have hxo := h.opn x hx
    have hle := h2 x hx
    show G.op.foldl (fun n x => min n (x.time + G.win - G.now)) 1152921504606846976 = _
    rcases h3 with h3 | ⟨y, hy, h3⟩
    · omega
    · have h4 := hmin y hy
      have h5 : x.time ≤ y.time := by
        unfold dLt at h4
        rw [decide_eq_false_iff_not] at h4
        have h6 : ¬y.time < x.time := fun e => h4 (.inl e)
        omega
      omega
section
variable {base F : Nat} {w w' : World} {K K' Z Z' : Nat → Prop} {G : GSt} {m : RM}
set_option maxRecDepth 100000 in
set_option maxHeartbeats 4000000 in
theorem rgDue {k : Nat} (h : Rga base w K Z F G m) (hok : G.Ok k) (hk : k ≤ 1000) : Calls Tryz.prog 30 #[ptV F] w fun e w' => e = .returned (.int .i64 G.due) ∧ Below w.heap.size w w' := by
  have CN := Lib.hid (rgNone h)
  obtain ⟨no, hno⟩ : ∃ no, m.oe.length = no := ⟨_, rfl⟩
  have ho := h.o
  obtain ⟨A, c, hv, hnc, -⟩ := own_form ho
  rw [hv] at ho
  rw [hno] at ho hv
  have hnum := hok.num
  have hon := h.oN
  rw [hno] at hon
  have c4 : w.cell? ⟨F, 4, none⟩ = some (.slice A no c) := by rw [h.blk.cell 4, ← hv]; rfl
  have H := Lib.hid h
  have HV := Lib.hid (And.intro hv hno)
  have HO := Lib.hid ho
  have HOK := Lib.hid hok
  have hno' : no ≤ 1000 := by omega
  have HON := Lib.hid hon
  clear h ho hv hno hok hnum hon hnc
  by_cases hz : no = 0
  · subst hz
    have hd : G.due = 0 := by
      have h0 : G.op = [] := List.eq_nil_of_length_eq_zero HON.out.symm
      show (match GSt.first G.op with | none => 0 | some x => x.time + G.win - G.now) = 0
      rw [h0]
      rfl
    rw [hd]
    clear hd
    go_enter Tryz.func30, Tryz.ntmps30
    go_wp2_with fail
    refine CN.out.mono ?_
    rintro e w2 ⟨rfl, rfl⟩
    go_wp2_with fail
    go_ret
    exact ⟨rfl, Below.refl _ _⟩
  · have hzb : ((no : Int) == 0) = false := by rw [beq_eq_false_iff_ne]; omega
    go_enter Tryz.func30, Tryz.ntmps30
    go_wp2_with fail
    refine CN.out.mono ?_
    rintro e w2 ⟨rfl, rfl⟩
    go_wp2_with fail
    clear c4
    go_loopw [3, 4] (fun v_ i_ wr => ∃ (j : Nat) (x : Int), j ≤ no ∧ i_ = .int .i64 j ∧ v_ = .int .i64 x ∧ Hid (x = dueM G (G.op.take j)) ∧ Hid (Below w.heap.size w wr)) (fun _ i_ _ => no - (intOf i_).toNat)
    case atStart => exact ⟨0, _, Nat.zero_le _, rfl, rfl, Lib.hid rfl, Lib.hid (Below.refl _ _)⟩
    case round =>
      obtain ⟨j, x, hj, rfl, rfl, HX, HB⟩ := hrel
      have hbd : Below w.heap.size w wr.drew := below_drewN HB.out 1
      have hd := H.out.below hbd
      have c4 : wr.drew.cell? ⟨F, 4, none⟩ = some (.slice A no c) := by rw [hd.blk.cell 4, ← HV.out.1]; rfl
      have c4' : wr.cell? ⟨F, 4, none⟩ = some (.slice A no c) := c4
      by_cases hlt : j < no
      · have hlt' : (j : Int) < (no : Int) := by omega
        obtain ⟨y, hy⟩ : ∃ y, m.oe[j]? = some y := ⟨_, List.getElem?_eq_getElem (by rw [HV.out.2]; exact hlt)⟩
        obtain ⟨b, o, rfl, -, hc⟩ := flatR_at oeC_length (by omega) (Rd.below (Rd.of_own HO.out) hbd) hy
        have ct : wr.drew.cell? ⟨b, o + j * 4 + 3, none⟩ = some (.int .i64 y.time) := by
          rw [Nat.add_assoc]
          exact hc 3 (by omega)
        have c1 : wr.drew.cell? ⟨F, 1, none⟩ = some (.int .i64 G.win) := (hd.blk.cell 1).trans rfl
        have c3 : wr.drew.cell? ⟨F, 3, none⟩ = some (.int .i64 G.now) := (hd.blk.cell 3).trans rfl
        have hop := hd.at hy
        have hyo := HOK.out.opn _ (List.mem_of_getElem? hop)
        have hyt0 : 0 ≤ y.time := hyo.2.2.2.1
        have hyt1 : y.time ≤ G.now := hyo.2.2.2.2.1
        have hw := HOK.out.win
        have hnw := HOK.out.now
        have hw1 : IntKind.i64.wrap (y.time + G.win) = y.time + G.win := by simp [IntKind.wrap, IntKind.bits, IntKind.signed]; omega
        have hw2 : IntKind.i64.wrap (y.time + G.win - G.now) = y.time + G.win - G.now := by simp [IntKind.wrap, IntKind.bits, IntKind.signed]; omega
        have hnx : min x (y.time + G.win - G.now) = dueM G (G.op.take (j + 1)) := by
          rw [List.take_add_one, hop, HX.out]
          unfold dueM
          rw [List.foldl_append]
          rfl
        have HNX := Lib.hid hnx
        have HBD := Lib.hid hbd
        clear hc hop hyo hyt0 hyt1 hw hnw hnx hd hy hbd
        go_wp2_with fail
        go_region_held3 (fun w' => w'.cell? ⟨F, 4, none⟩ = some (.slice (some ⟨b, o, none⟩) no c) ∧ w'.cell? ⟨b, o + j * 4 + 3, none⟩ = some (.int .i64 y.time) ∧ w'.cell? ⟨F, 1, none⟩ = some (.int .i64 G.win) ∧ w'.cell? ⟨F, 3, none⟩ = some (.int .i64 G.now)) (exact ⟨c4, ct, c1, c3⟩) (fail)
        clear c4 ct c1 c3 c4'
        go_wp2_with fail
        exact ⟨⟨j + 1, _, by omega, by go_num, rfl, HNX, HBD⟩, by simp only [intOf]; omega⟩
      · have hlt' : ¬(j : Int) < (no : Int) := by omega
        have hx : x = G.due := by
          rw [HX.out, List.take_of_length_le (by have := HON.out; omega)]
          exact due_min HOK.out (fun e => by have := HON.out; rw [e] at this; simp at this; omega)
        have HXX := Lib.hid hx
        clear hx hd hbd c4
        go_wp2_with fail
        go_ret
        exact ⟨by rw [← HXX.out]; rfl, HB.out⟩
end
end Go.Proofs.YtoojpagpkbcfjaaGreat


/- Layer 20, the document's side: Tick. -/
namespace Go.Proofs.YtoojpagpkbcfjaaGreat
open Go.RowKit
/-- What the scan has found among the first j. -/
def Scan (G : GSt) (j : Nat) (f : Int) : Prop :=
  (f = -1 ∧ ∀ y ∈ G.op.take j, ¬G.win ≤ G.now - y.time) ∨
  ∃ (i : Nat) (x : Opn), f = i ∧ i < j ∧ G.op[i]? = some x ∧ G.win ≤ G.now - x.time ∧ (∀ y ∈ G.op.take j, G.win ≤ G.now - y.time → x.time ≤ y.time) ∧ ∀ i' y, i' < i → G.op[i']? = some y → G.win ≤ G.now - y.time → x.time < y.time
theorem mem_take_at {α : Type} {l : List α} {j : Nat} {y : α} (hy : l[j]? = some y) : ∀ z ∈ l.take (j + 1), z ∈ l.take j ∨ z = y := fun z hz => (mem_take_succ hy).1 hz
theorem Scan.no {G : GSt} {j : Nat} {f : Int} {y : Opn} (h : Scan G j f) (hy : G.op[j]? = some y) (hn : ¬G.win ≤ G.now - y.time) : Scan G (j + 1) f := by
  rcases h with ⟨h1, h2⟩ | ⟨i, x, h1, h2, h3, h4, h5, h6⟩
  · exact .inl ⟨h1, fun z hz => (mem_take_at hy z hz).elim (h2 z) fun e => e ▸ hn⟩
  · exact .inr ⟨i, x, h1, by omega, h3, h4, fun z hz hd => (mem_take_at hy z hz).elim (fun e => h5 z e hd) fun e => absurd (e ▸ hd) hn, h6⟩
theorem Scan.fst {G : GSt} {j : Nat} {y : Opn} (h : Scan G j (-1)) (hy : G.op[j]? = some y) (hd : G.win ≤ G.now - y.time) : Scan G (j + 1) j := by
  rcases h with ⟨-, h2⟩ | ⟨i, x, h1, -⟩
  · refine .inr ⟨j, y, rfl, by omega, hy, hd, fun z hz hz2 => (mem_take_at hy z hz).elim (fun e => absurd hz2 (h2 z e)) fun e => by rw [e]; exact Int.le_refl _, fun i' z hi hz hz2 => ?_⟩
    exact absurd hz2 (h2 z (List.mem_iff_getElem?.2 ⟨i', by rw [List.getElem?_take, if_pos hi]; exact hz⟩))
  · omega
theorem Scan.less {G : GSt} {j i : Nat} {x y : Opn} (h : Scan G j i) (hx : G.op[i]? = some x) (hy : G.op[j]? = some y) (hd : G.win ≤ G.now - y.time) (hl : y.time < x.time) : Scan G (j + 1) j := by
  rcases h with ⟨h1, -⟩ | ⟨i', x', h1, h2, h3, h4, h5, h6⟩
  · omega
  · have : i = i' := by omega
    subst this
    rw [hx] at h3
    cases h3
    refine .inr ⟨j, y, rfl, by omega, hy, hd, fun z hz hz2 => (mem_take_at hy z hz).elim (fun e => by have := h5 z e hz2; omega) fun e => by rw [e]; exact Int.le_refl _, fun i' z hi hz hz2 => ?_⟩
    have := h5 z (List.mem_iff_getElem?.2 ⟨i', by rw [List.getElem?_take, if_pos hi]; exact hz⟩) hz2
    omega
theorem Scan.more {G : GSt} {j i : Nat} {x y : Opn} (h : Scan G j i) (hx : G.op[i]? = some x) (hy : G.op[j]? = some y) (hl : ¬y.time < x.time) : Scan G (j + 1) i := by
  rcases h with ⟨h1, -⟩ | ⟨i', x', h1, h2, h3, h4, h5, h6⟩
  · omega
  · have : i = i' := by omega
    subst this
    rw [hx] at h3
    cases h3
    exact .inr ⟨i, x, rfl, by omega, hx, h4, fun z hz hz2 => (mem_take_at hy z hz).elim (fun e => h5 z e hz2) fun e => by rw [e]; omega, h6⟩
theorem Scan.none {G : GSt} (h : Scan G G.op.length (-1)) (f : Nat) : GSt.closeDue f G = G := by
  rcases h with ⟨-, h2⟩ | ⟨i, x, h1, -⟩
  · cases f with
    | zero => rfl
    | succ f =>
      simp only [GSt.closeDue]
      cases hf : GSt.first G.op with
      | none => rfl
      | some z =>
        simp only
        rw [if_neg (h2 z (by rw [List.take_length]; exact (first_some hf).1))]
  · omega
theorem Scan.some {G : GSt} {i : Nat} {x : Opn} (h : Scan G G.op.length i) (hx : G.op[i]? = some x) (hs : OpS G.op) : GSt.first G.op = some x ∧ G.win ≤ G.now - x.time := by
  rcases h with ⟨h1, -⟩ | ⟨i', x', h1, h2, h3, h4, h5, h6⟩
  · omega
  · have : i = i' := by omega
    subst this
    rw [hx] at h3
    cases h3
    refine ⟨?_, h4⟩
    cases hf : GSt.first G.op with
    | none =>
      have h0 := first_none hf
      rw [h0] at hx
      cases hx
    | some z =>
      obtain ⟨hz, hmin⟩ := first_some hf
      have hxm := List.mem_of_getElem? hx
      have hxz := hmin x hxm
      unfold dLt at hxz
      rw [decide_eq_false_iff_not] at hxz
      have hzx : z.time ≤ x.time := by
        have h7 : ¬x.time < z.time := fun e => hxz (.inl e)
        omega
      have hzd : G.win ≤ G.now - z.time := by omega
      have hxz2 := h5 z (by rw [List.take_length]; exact hz) hzd
      obtain ⟨iz, hiz, hze⟩ := List.getElem_of_mem hz
      have hize : G.op[iz]? = Option.some z := by rw [List.getElem?_eq_getElem hiz, hze]
      rcases Nat.lt_trichotomy iz i with h7 | h7 | h7
      · have := h6 iz z h7 hize hzd
        omega
      · subst h7
        rw [hx] at hize
        cases hize
        rfl
      · have h8 := (List.pairwise_iff_getElem.1 hs) i iz h2 hiz h7
        obtain ⟨h9, h10⟩ := List.getElem?_eq_some_iff.1 hx
        rw [hze, h10] at h8
        exfalso
        apply hxz
        have e1 : x.time = z.time := by omega
        refine .inr ⟨e1, ?_⟩
        have h11 : x.t.hi < z.t.hi ∨ (x.t.hi = z.t.hi ∧ x.t.lo < z.t.lo) := by simpa [Tr.lt] using h8
        exact h11
/-- How many are open. -/
def onN (w : World) (F : Nat) : Nat := match w.cell? ⟨F, 4, none⟩ with | some (.slice _ n _) => n | _ => 0
section
variable {base F : Nat} {w w' : World} {K K' Z Z' : Nat → Prop} {G : GSt} {m : RM}
theorem Rga.onN (h : Rga base w K Z F G m) : onN w F = G.op.length := by
  obtain ⟨A, c, hv, -, -⟩ := own_form h.o
  unfold Proofs.YtoojpagpkbcfjaaGreat.onN
  rw [show w.cell? ⟨F, 4, none⟩ = some m.ov from h.blk.cell 4, hv]
  exact h.oN
/-- Cells of F, stored: numbers alone. -/
theorem Rga.stored (h : Rga base w K Z F G m) {G' : GSt} (i : Nat) (u : Value) (hc : rgC G' m = (rgC G m).setIfInBounds i u) (h1 : G'.op = G.op) (h2 : G'.all = G.all) (h3 : G'.cl = G.cl) : Rga base (w.setCell ⟨F, i, none⟩ u) K Z F G' m := by
  have hf := FrK.set w F i u
  have hbk : ∀ {b : Nat} {t : TypeId} {cs : Array Value}, Bk w b t cs → t ≠ 72 → (w.setCell ⟨F, i, none⟩ u).heap[b]? = w.heap[b]? := fun {b t cs} hB ht => hf.block b hB.lt (ne_of_type hB h.blk ht)
  have hz : ∀ b, Z b → (w.setCell ⟨F, i, none⟩ u).heap[b]? = w.heap[b]? := fun b hb2 => hf.block b (h.loZ b hb2) (fun e => h.kz F h.kF ((show b = F from e) ▸ hb2))
  exact { blk := by rw [hc]; exact h.blk.set i u
          o := own_of h.o fun g e => by
            obtain ⟨cur, hcur⟩ := own_bk h.o e
            exact hbk hcur (by decide)
          oE := by rw [h1]; exact h.oE
          row := fun x hx => own_of (h.row x hx) fun g e => by
            obtain ⟨cur, hcur⟩ := own_bk (h.row x hx) e
            exact hbk hcur (by decide)
          el := fun x hx e he => (h.el x hx e he).keep hz hf.size fun _ e => e
          inj := h.inj
          cls := h.cls.keep fun g e => by
            obtain ⟨cur, hc⟩ := ClQ.blk h.cls e
            exact hbk hc (by decide)
          clsE := by rw [h3]; exact h.clsE
          clz := fun e he => (h.clz e he).keep hz hf.size fun _ e => e
          all := by
            rw [h2]
            exact own_of h.all fun g e => by
              obtain ⟨cur, hcur⟩ := own_bk h.all e
              exact hbk hcur (by decide)
          kF := h.kF
          kO := h.kO
          kR := h.kR
          kC := h.kC
          kA := h.kA
          kz := h.kz
          lo := fun b e => ⟨(h.lo b e).1, Nat.lt_of_lt_of_le (h.lo b e).2 hf.size⟩
          loZ := fun b e => Nat.lt_of_lt_of_le (h.loZ b e) hf.size }
end
end Go.Proofs.YtoojpagpkbcfjaaGreat

