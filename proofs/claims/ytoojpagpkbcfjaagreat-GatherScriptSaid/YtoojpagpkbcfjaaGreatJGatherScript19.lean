/- Texts of the proof of GatherScriptSaid, joined: RgI RgJ RgK RgL RgM RgN RgO GatherScript. -/
import Derived.Test.YtoojpagpkbcfjaaGreatJGatherScript18
import Derived.Deep.QuietTactic
import Derived.Test.YtoojpagpkbcfjaaGreatJGatherScript10
import Derived.Test.YtoojpagpkbcfjaaGreatJGatherScript17
/- Layer 20, the document's side: Tick, walked. -/
namespace Go.Proofs.YtoojpagpkbcfjaaGreat
open Go.RowKit
section
variable {base F : Nat} {w w' : World} {K K' Z Z' : Nat → Prop} {G : GSt} {m : RM}
/-- What Tick comes to. -/
def RTickP (base : Nat) (w : World) (K Z : Nat → Prop) (F : Nat) (G : GSt) (n : Int) (e : Ending) (w' : World) : Prop :=
  e = .returned (.int .i64 ((G.tick n).2 : Nat)) ∧ ∃ K' Z' m', Gro w w' K K' Z Z' ∧ Rga base w' K' Z' F (G.tick n).1 m'
/-- Ahead of a turn of Tick's loop. -/
def RTickR (base : Nat) (w : World) (K Z : Nat → Prop) (F k : Nat) (G T : GSt) (wx : World) : Prop :=
  ∃ (f : Nat) (G' : GSt) (K' Z' : Nat → Prop) (m' : RM), GSt.closeDue f G' = T ∧ G'.op.length ≤ f ∧ G'.win = G.win ∧ G'.now = G.now ∧ G'.Ok k ∧ G'.all.length + G'.op.length ≤ k + k ∧ Gro w wx K K' Z Z' ∧ Rga base wx K' Z' F G' m'
set_option maxRecDepth 100000 in
set_option maxHeartbeats 8000000 in
theorem rgTick {k : Nat} {n : Int} (h : Rga base w K Z F G m) (hok : G.Ok k) (hk : k ≤ 1000) (hall : G.all.length + G.op.length ≤ k + k) (hn : -9223372036854775808 ≤ n ∧ n ≤ 9223372036854775807) :
    Calls Tryz.prog 12 #[ptV F, .int .i64 n] w (RTickP base w K Z F G n) := by
  have CN := Lib.hid (rgNone h)
  have c3 : w.cell? ⟨F, 3, none⟩ = some (.int .i64 G.now) := (h.blk.cell 3).trans rfl
  have g3 := h.blk.frozen 3
  have hnw := hok.now
  have hw1 : IntKind.i64.wrap (1152921504606846976 - G.now) = 1152921504606846976 - G.now := by simp [IntKind.wrap, IntKind.bits, IntKind.signed]; omega
  by_cases hbad : n < 0 ∨ 1152921504606846976 - G.now < n
  · have ht : G.tick n = (G, 2) := if_pos hbad
    have HT := Lib.hid ht
    have H := Lib.hid h
    clear ht h hnw hok
    by_cases h1 : n < 0
    · clear hbad
      go_enter Tryz.func12, Tryz.ntmps12
      go_wp2_with fail
      refine CN.out.mono ?_
      rintro e w2 ⟨rfl, rfl⟩
      go_wp2_with fail
      go_ret
      unfold RTickP
      rw [HT.out]
      exact ⟨rfl, K, Z, m, Gro.refl (FrK.refl _ _), H.out⟩
    · have h2 : 1152921504606846976 - G.now < n := by omega
      clear hbad
      go_enter Tryz.func12, Tryz.ntmps12
      go_wp2_with fail
      refine CN.out.mono ?_
      rintro e w2 ⟨rfl, rfl⟩
      go_wp2_with fail
      go_ret
      unfold RTickP
      rw [HT.out]
      exact ⟨rfl, K, Z, m, Gro.refl (FrK.refl _ _), H.out⟩
  · have ht : G.tick n = (GSt.closeDue G.op.length (G.at (G.now + n)), 0) := if_neg hbad
    have h1 : ¬n < 0 := fun e => hbad (.inl e)
    have h2 : ¬1152921504606846976 - G.now < n := fun e => hbad (.inr e)
    have hw2 : IntKind.i64.wrap (G.now + n) = G.now + n := by simp [IntKind.wrap, IntKind.bits, IntKind.signed]; omega
    have hs := h.stored (G' := G.at (G.now + n)) 3 (.int .i64 (G.now + n)) (by simp [rgC, GSt.at]) rfl rfl rfl
    have hf := (FrK.set w F 3 (.int .i64 (G.now + n))).mono (K' := K) fun b _ e => (show b = F from e) ▸ h.kF
    have HR0 : Hid (RTickR base w K Z F k (G.at (G.now + n)) (GSt.closeDue G.op.length (G.at (G.now + n))) (w.setCell ⟨F, 3, none⟩ (.int .i64 (G.now + n)))) := Lib.hid ⟨_, _, K, Z, m, rfl, Nat.le_refl _, rfl, rfl, hok.at (by omega) (by omega), hall, Gro.refl hf, hs⟩
    have HT := Lib.hid ht
    clear h ht hs hf hbad hok hnw hall
    obtain ⟨G1, hG1⟩ : ∃ G1, G.at (G.now + n) = G1 := ⟨_, rfl⟩
    obtain ⟨T, hTT⟩ : ∃ T, GSt.closeDue G.op.length G1 = T := ⟨_, rfl⟩
    rw [hG1, hTT] at HR0 HT
    clear hG1 hTT
    go_enter Tryz.func12, Tryz.ntmps12
    go_wp2_with fail
    refine CN.out.mono ?_
    rintro e w2 ⟨rfl, rfl⟩
    go_wp2_with fail
    clear c3 g3 hw1 hw2 h1 h2
    go_loopw [5, 6] (fun _ _ wx => Hid (RTickR base w K Z F k G1 T wx)) (fun _ _ wx => onN wx F)
    case atStart => exact HR0
    case round =>
      obtain ⟨f, G', K', Z', m', hT, hfu, hwin, hnow, hok, hal, hgr, hR⟩ := hrel.out
      clear hrel
      obtain ⟨no, hno⟩ : ∃ no, m'.oe.length = no := ⟨_, rfl⟩
      have hon := hR.oN
      rw [hno] at hon
      have ho := hR.o
      obtain ⟨A, c, hv, hnc, -⟩ := own_form ho
      rw [hv] at ho
      rw [hno] at ho hv
      have hmeas := hR.onN
      have hnum := hok.num
      have hno' : no ≤ 1000 := by omega
      have HR := Lib.hid hR
      have HOK := Lib.hid hok
      have HV := Lib.hid (And.intro hv hno)
      have HO := Lib.hid ho
      have HON := Lib.hid hon
      have HM := Lib.hid hmeas
      have HJ := Lib.hid (And.intro hT (And.intro hfu (And.intro hwin (And.intro hnow (And.intro hal hgr)))))
      clear hT hfu hwin hnow hok hal hgr hR ho hv hno hon hnc hmeas hnum
      obtain ⟨W, hWW⟩ : ∃ W, W = wr := ⟨_, rfl⟩
      subst hWW
      go_wp2_with fail
      go_loopw [5, 6] (fun f_ i_ wx => ∃ (j : Nat) (fv : Int), j ≤ no ∧ i_ = .int .i64 j ∧ f_ = .int .i64 fv ∧ Hid (Scan G' j fv) ∧ Hid (Below W.heap.size W wx)) (fun _ i_ _ => no - (intOf i_).toNat)
      case atStart => exact ⟨0, -1, Nat.zero_le _, rfl, rfl, Lib.hid (.inl ⟨rfl, fun y hy => by simp at hy⟩), Lib.hid (Below.refl _ _)⟩
      case round =>
        obtain ⟨j, fv, hj, rfl, rfl, HSC, HB⟩ := hrel
        have hbd : Below W.heap.size W wr.drew := below_drewN HB.out 1
        have hd := HR.out.below hbd
        have c4 : wr.drew.cell? ⟨F, 4, none⟩ = some (.slice A no c) := by rw [hd.blk.cell 4, ← HV.out.1]; rfl
        have c4' : wr.cell? ⟨F, 4, none⟩ = some (.slice A no c) := c4
        by_cases hlt : j < no
        case neg =>
          have hlt' : ¬(j : Int) < (no : Int) := by omega
          have hjn : j = G'.op.length := by have := HON.out; omega
          have hscan := HSC.out
          rw [hjn] at hscan
          have hRn := HR.out.below HB.out
          have hGn : Gro w wr K K' Z Z' := HJ.out.2.2.2.2.2.trans (Gro.refl (FrK.of_below HB.out (Nat.le_refl _) K'))
          rcases hscan with ⟨rfl, hs2⟩ | ⟨i, x, rfl, hi, hx, hxd, hs5, hs6⟩
          · have hTn : G' = T := by
              rw [← HJ.out.1]
              exact (Scan.none (.inl ⟨rfl, hs2⟩) f).symm
            have HFIN : Hid (RTickP base w K Z F G n (.returned (.int .i64 0)) wr) := Lib.hid (by
              unfold RTickP
              rw [HT.out]
              exact ⟨rfl, K', Z', m', hGn, by rw [← hTn]; exact hRn⟩)
            clear hRn hGn hs2 hTn hd hbd c4
            go_wp2_with fail
            go_ret
            exact HFIN.out
          · obtain ⟨hfst, hdue⟩ := Scan.some (.inr ⟨i, x, rfl, hi, hx, hxd, hs5, hs6⟩) hx HOK.out.ops
            obtain ⟨ex, hex⟩ : ∃ ex, m'.oe[i]? = some ex := ⟨_, List.getElem?_eq_getElem (by have := HV.out.2; have := HON.out; omega)⟩
            have hexx := hRn.at hex
            rw [hx] at hexx
            have hexo : x = oeO ex := Option.some.inj hexx
            have hxok := HOK.out.opn x (List.mem_of_getElem? hx)
            have hcap := HOK.out.cap
            have hnum := HOK.out.num
            have hxl : ex.l.length ≤ 32 := by
              have h1 := hxok.2.1
              rw [hexo] at h1
              simp only [oeO, sps_length] at h1
              omega
            have htg : ∀ e ∈ ex.l, e.n ≤ 1000000 := fun e he => by
              have h1 := (hRn.el ex (List.mem_of_getElem? hex) e he).ok.len
              have h2 := hxok.2.2.1 e.s (by rw [hexo]; exact List.mem_map.2 ⟨e, he, rfl⟩)
              have h3 := chk_tags h2.1
              omega
            have hceN := hRn.ceN
            have CC := Lib.hid (rgClose hRn HOK.out.ops hex (by omega) (by have := HJ.out.2.2.2.2.1; omega) (by have := HV.out.2; omega) (by omega) htg)
            obtain ⟨f, rfl⟩ : ∃ f', f = f' + 1 := ⟨f - 1, by have := HJ.out.2.1; have := List.length_pos_of_mem (List.mem_of_getElem? hx); omega⟩
            have hTT : GSt.closeDue (f + 1) G' = GSt.closeDue f (G'.close x.t x.l) := by
              simp only [GSt.closeDue, hfst]
              rw [if_pos hdue]
            have hd1 := delOf_lt (List.mem_of_getElem? hx)
            have hokc := HOK.out.close x.t x.l ⟨hxok.1, hxok.2.2.1, by omega⟩ (by omega)
            have hclo : G'.close ex.t (sps ex.l) = G'.close x.t x.l := by rw [hexo]; rfl
            have HC := Lib.hid (And.intro hTT (And.intro hd1 (And.intro hokc (And.intro hclo hGn))))
            have hi0 : ¬(i : Int) < 0 := by omega
            clear hTT hd1 hokc hclo hGn hRn hfst hdue hex hexx hexo hxok hcap hnum hxl htg hceN hd hbd c4 hs5 hs6 hxd
            go_wp2_with fail
            refine CC.out.mono ?_
            rintro e w6 ⟨rfl, K6, Z6, m6, g6, R6⟩
            have hnew : Hid (RTickR base w K Z F k G1 T w6) := by
              obtain ⟨hTT, hd1, hokc, hclo, hGn⟩ := HC.out
              rw [hclo] at R6
              refine Lib.hid ⟨f, G'.close x.t x.l, K6, Z6, m6, hTT.symm.trans HJ.out.1, by rw [close_op]; have := HJ.out.2.1; omega, HJ.out.2.2.1, HJ.out.2.2.2.1, hokc, ?_, hGn.trans g6, R6⟩
              have h1 : (G'.close x.t x.l).all.length = G'.all.length + 1 := by simp [GSt.close]
              rw [h1, close_op]
              have := HJ.out.2.2.2.2.1
              omega
            have hmz : onN w6 F < onN W F := by
              obtain ⟨hTT, hd1, hokc, hclo, hGn⟩ := HC.out
              rw [R6.onN, HM.out, hclo, close_op]
              exact hd1
            clear CC g6 R6
            go_wp2_with fail
            exact ⟨hnew, hmz⟩
        have hlt' : (j : Int) < (no : Int) := by omega
        obtain ⟨y, hy⟩ : ∃ y, m'.oe[j]? = some y := ⟨_, List.getElem?_eq_getElem (by rw [HV.out.2]; exact hlt)⟩
        have rdd := Rd.below (Rd.of_own HO.out) hbd
        obtain ⟨b, o, rfl, -, hc⟩ := flatR_at oeC_length (by omega) rdd hy
        have ct : wr.cell? ⟨b, o + j * 4 + 3, none⟩ = some (.int .i64 y.time) := by
          rw [Nat.add_assoc]
          exact hc 3 (by omega)
        have c1 : wr.cell? ⟨F, 1, none⟩ = some (.int .i64 G'.win) := (hd.blk.cell 1).trans rfl
        have c3 : wr.cell? ⟨F, 3, none⟩ = some (.int .i64 G'.now) := (hd.blk.cell 3).trans rfl
        have hop := hd.at hy
        have hyo := HOK.out.opn _ (List.mem_of_getElem? hop)
        have hyt0 : 0 ≤ y.time := hyo.2.2.2.1
        have hyt1 : y.time ≤ G'.now := hyo.2.2.2.2.1
        have hnw := HOK.out.now
        have hw1 : IntKind.i64.wrap (G'.now - y.time) = G'.now - y.time := by simp [IntKind.wrap, IntKind.bits, IntKind.signed]; omega
        have HBD := Lib.hid hbd
        by_cases hdue : G'.win ≤ G'.now - y.time
        case neg =>
          have HN := Lib.hid (Scan.no HSC.out hop hdue)
          have hdd : decide (G'.win ≤ G'.now - y.time) = false := by simpa using hdue
          have hdd2 : decide (G'.now - y.time ≥ G'.win) = false := by simpa using hdue
          clear hc hop hyo hyt0 hyt1 hnw hd hy hbd rdd
          go_wp2_with fail
          go_quiet (fail)
          have HBQ : Hid (Below W.heap.size W (wr.drewN nq)) := Lib.hid (below_drewN HB.out nq)
          clear c4 ct c1 c3 c4'
          go_wp2_with fail
          exact ⟨⟨j + 1, fv, by omega, by go_num, rfl, HN, HBQ⟩, by simp only [intOf]; omega⟩
        have hdd : decide (G'.win ≤ G'.now - y.time) = true := by simpa using hdue
        have hdd2 : decide (G'.now - y.time ≥ G'.win) = true := by simpa using hdue
        rcases HSC.out with ⟨rfl, hs2⟩ | ⟨i, x, rfl, hi, hx, hxd, hs5, hs6⟩
        · have HN := Lib.hid (Scan.fst (.inl ⟨rfl, hs2⟩) hop hdue)
          clear hc hop hyo hyt0 hyt1 hnw hd hy hbd rdd hs2
          go_wp2_with fail
          go_quiet (fail)
          have HBQ : Hid (Below W.heap.size W (wr.drewN nq)) := Lib.hid (below_drewN HB.out nq)
          clear c4 ct c1 c3 c4'
          go_wp2_with fail
          exact ⟨⟨j + 1, (j : Int), by omega, by go_num, rfl, HN, HBQ⟩, by simp only [intOf]; omega⟩
        · obtain ⟨ex, hex⟩ : ∃ ex, m'.oe[i]? = some ex := ⟨_, List.getElem?_eq_getElem (by rw [HV.out.2]; omega)⟩
          have hexx := hd.at hex
          rw [hx] at hexx
          have hexo : x = oeO ex := Option.some.inj hexx
          obtain ⟨b', o', e', -, hc2⟩ := flatR_at oeC_length (by omega) rdd hex
          cases e'
          have ci : wr.cell? ⟨b, o + i * 4 + 3, none⟩ = some (.int .i64 x.time) := by
            rw [Nat.add_assoc, hexo]
            exact hc2 3 (by omega)
          have hi0 : ¬(i : Int) < 0 := by omega
          have hij : (0 : Int) ≤ (i : Int) := by omega
          have hil : (i : Int) < (no : Int) := by omega
          have hi0d : decide ((i : Int) < 0) = false := by simp
          by_cases hl : y.time < x.time
          · have hld : decide (y.time < x.time) = true := by simpa using hl
            have HN := Lib.hid (Scan.less (.inr ⟨i, x, rfl, hi, hx, hxd, hs5, hs6⟩) hx hop hdue hl)
            clear hc hop hyo hyt0 hyt1 hnw hd hy hbd rdd hs5 hs6 hx hex hexx hexo hc2 hxd
            go_wp2_with fail
            go_quiet (fail)
            have HBQ : Hid (Below W.heap.size W (wr.drewN nq)) := Lib.hid (below_drewN HB.out nq)
            clear c4 ct c1 c3 c4' ci
            go_wp2_with fail
            exact ⟨⟨j + 1, (j : Int), by omega, by go_num, rfl, HN, HBQ⟩, by simp only [intOf]; omega⟩
          · have hld : decide (y.time < x.time) = false := by simpa using hl
            have HN := Lib.hid (Scan.more (.inr ⟨i, x, rfl, hi, hx, hxd, hs5, hs6⟩) hx hop hl)
            clear hc hop hyo hyt0 hyt1 hnw hd hy hbd rdd hs5 hs6 hx hex hexx hexo hc2 hxd
            go_wp2_with fail
            go_quiet (fail)
            have HBQ : Hid (Below W.heap.size W (wr.drewN nq)) := Lib.hid (below_drewN HB.out nq)
            clear c4 ct c1 c3 c4' ci
            go_wp2_with fail
            exact ⟨⟨j + 1, (i : Int), by omega, by go_num, rfl, HN, HBQ⟩, by simp only [intOf]; omega⟩
end
end Go.Proofs.YtoojpagpkbcfjaaGreat


/- Layer 20, the document's side: what Add does to the open traces. -/
namespace Go.Proofs.YtoojpagpkbcfjaaGreat
open Go.RowKit
theorem putIn_at {x : Opn} : ∀ {l : List Opn} {i : Nat}, (∀ j y, j < i → l[j]? = some y → Tr.lt y.t x.t = true) → i ≤ l.length → (∀ y, l[i]? = some y → Tr.lt y.t x.t = false ∧ y.t ≠ x.t) → GSt.putIn x l = l.take i ++ x :: l.drop i
  | [], i, _, hi, _ => by
    have : i = 0 := by simpa using hi
    subst this
    rfl
  | y :: l, 0, _, _, h2 => by
    obtain ⟨h3, h4⟩ := h2 y rfl
    unfold GSt.putIn
    rw [if_neg (by rw [h3]; decide), if_neg h4]
    rfl
  | y :: l, i + 1, h1, hi, h2 => by
    unfold GSt.putIn
    rw [if_pos (h1 0 y (by omega) rfl), putIn_at (l := l) (i := i) (fun j z hj hz => h1 (j + 1) z (by omega) (by simpa using hz)) (by simpa using hi) (fun z hz => h2 z (by simpa using hz))]
    rfl
theorem putIn_set {x y : Opn} : ∀ {l : List Opn} {i : Nat}, (∀ j z, j < i → l[j]? = some z → Tr.lt z.t x.t = true) → l[i]? = some y → y.t = x.t → GSt.putIn x l = l.set i x
  | [], i, _, h, _ => by cases h
  | z :: l, 0, _, h, he => by
    cases h
    unfold GSt.putIn
    rw [if_neg (by rw [he, Tr.lt_irr]; decide), if_pos he]
    rfl
  | z :: l, i + 1, h1, h, he => by
    unfold GSt.putIn
    rw [if_pos (h1 0 z (by omega) rfl), putIn_set (l := l) (i := i) (fun j u hj hu => h1 (j + 1) u (by omega) (by simpa using hu)) (by simpa using h) he]
    rfl
theorem get_of_mem {G : GSt} (hs : OpS G.op) {y : Opn} (hy : y ∈ G.op) : G.get y.t = some y := by
  unfold GSt.get
  obtain ⟨l, hl⟩ : ∃ l, G.op = l := ⟨_, rfl⟩
  rw [hl] at hs hy ⊢
  clear hl
  induction l with
  | nil => cases hy
  | cons z l ih =>
    have hne := hs.ne
    rcases List.mem_cons.1 hy with rfl | hy
    · rw [List.find?_cons_of_pos (by simp)]
    · rw [List.find?_cons_of_neg (by simpa using fun e => hne y hy e.symm)]
      exact ih hy (List.Pairwise.of_cons hs)
theorem get_none_at {G : GSt} (hs : OpS G.op) {t : Tr} {i : Nat} (h1 : ∀ j y, j < i → G.op[j]? = some y → Tr.lt y.t t = true) (h2 : ∀ y, G.op[i]? = some y → Tr.lt y.t t = false ∧ y.t ≠ t) : G.get t = none := by
  unfold GSt.get
  rw [List.find?_eq_none]
  intro y hy
  obtain ⟨j, hj, rfl⟩ := List.getElem_of_mem hy
  simp only [decide_eq_true_eq]
  intro e
  rcases Nat.lt_trichotomy j i with h | h | h
  · have := h1 j _ h (List.getElem?_eq_getElem hj)
    rw [e, Tr.lt_irr] at this
    cases this
  · subst h
    exact (h2 _ (List.getElem?_eq_getElem hj)).2 e
  · have hi : i < G.op.length := by omega
    obtain ⟨h3, h4⟩ := h2 _ (List.getElem?_eq_getElem hi)
    have h5 := Tr.lt_of h3 h4
    have h6 := (List.pairwise_iff_getElem.1 hs) i j hi hj h
    have h7 := Tr.lt_tr h5 h6
    rw [e, Tr.lt_irr] at h7
    cases h7
section
variable {base F : Nat} {w w' : World} {K K' Z Z' : Nat → Prop} {G : GSt} {m : RM}
/-- The open traces anew: old ones, and empty ones. -/
theorem Rga.insO (h : Rga base w K Z F G m) {v' : Value} {oe' : List OE} {op' : List Opn} (hf : FrK w w' fun b => b = F ∨ m.ov.ownBlock = some b) (hB : Bk w' F 72 ((rgC G m).setIfInBounds 4 v')) (hQ : w'.ownsRow base 79 4 v' oe'.length (flatR oeC oe'))
    (hsub : ∀ e ∈ oe', e ∈ m.oe ∨ (e.l = [] ∧ e.A = none ∧ e.c = 0)) (hop : oe'.map oeO = op') (hnew : ∀ g, v'.ownBlock = some g → m.ov.ownBlock = some g ∨ w.heap.size ≤ g) :
    ∃ K', Gro w w' K K' Z Z ∧ Rga base w' K' Z F { G with op := op' } { m with ov := v', oe := oe' } := by
  obtain ⟨g1, g2, g3, g4⟩ := h.grow1 (v' := v') h.kO hf fun g e => ⟨(hQ.lt g e).2, hnew g e⟩
  have hbk : ∀ {b : Nat} {t : TypeId} {cs : Array Value}, Bk w b t cs → t ≠ 72 → t ≠ 79 → w'.heap[b]? = w.heap[b]? := fun {b t cs} hb h1 h2 => hf.block b hb.lt (by
    rintro (e | e)
    · exact ne_of_type hb h.blk h1 e
    · obtain ⟨cur, hc⟩ := own_bk h.o e
      exact ne_of_type hb hc h2 rfl)
  have hzz : ∀ b, Z b → w'.heap[b]? = w.heap[b]? := fun b hb => hf.block b (h.loZ b hb) (by
    rintro (e | e)
    · exact h.kz F h.kF (e ▸ hb)
    · exact h.kz b (h.kO b e) hb)
  have hnil : ∀ e : OE, (e.l = [] ∧ e.A = none ∧ e.c = 0) → oeR e = .slice none 0 0 := fun e ⟨h1, h2, h3⟩ => by
    show Value.slice e.A e.l.length e.c = _
    rw [h1, h2, h3]
    rfl
  refine ⟨_, g1, ?_⟩
  exact { blk := by
            have e1 : rgC { G with op := op' } { m with ov := v', oe := oe' } = (rgC G m).setIfInBounds 4 v' := by simp [rgC]
            rw [e1]
            exact hB
          o := hQ
          oE := hop
          row := fun x hx => by
            rcases hsub x hx with hx | hx
            · exact own_of (h.row x hx) fun g e => by
                obtain ⟨cur, hcur⟩ := own_bk (h.row x hx) e
                exact hbk hcur (by decide) (by decide)
            · rw [hnil x hx, hx.1]
              exact World.ownsRow_nil w' _ _ 11
          el := fun x hx e he => by
            rcases hsub x hx with hx | hx
            · exact (h.el x hx e he).keep hzz hf.size fun _ e => e
            · rw [hx.1] at he
              cases he
          inj := fun e he f hf2 g hg hg2 => by
            rcases hsub e he with he | he
            · rcases hsub f hf2 with hf2 | hf2
              · exact h.inj e he f hf2 g hg hg2
              · rw [hnil f hf2] at hg2
                cases hg2
            · rw [hnil e he] at hg
              cases hg
          cls := h.cls.keep fun g e => by
            obtain ⟨cur, hc⟩ := ClQ.blk h.cls e
            exact hbk hc (by decide) (by decide)
          clsE := h.clsE
          clz := fun x hx => (h.clz x hx).keep hzz hf.size fun _ e => e
          all := own_of h.all fun g e => by
            obtain ⟨cur, hcur⟩ := own_bk h.all e
            exact hbk hcur (by decide) (by decide)
          kF := .inl h.kF
          kO := fun g e => .inr e
          kR := fun x hx g e => by
            rcases hsub x hx with hx | hx
            · exact .inl (h.kR x hx g e)
            · rw [hnil x hx] at e
              cases e
          kC := fun g e => .inl (h.kC g e)
          kA := fun g e => .inl (h.kA g e)
          kz := g2
          lo := g3
          loZ := g4 }
/-- An open trace changed where it lies: its spans, its time. -/
theorem Rga.setE (h : Rga base w K Z F G m) {i : Nat} {e e' : OE} (hi : m.oe[i]? = some e) (hnd : ∀ j f, m.oe[j]? = some f → f.t = e.t → j = i) (ht : e'.t = e.t) (hf : FrK w w' fun b => m.ov.ownBlock = some b ∨ (oeR e).ownBlock = some b)
    (hQ : w'.ownsRow base 79 4 m.ov m.oe.length (flatR oeC (m.oe.set i e'))) (hrow : w'.ownsRow base 40 11 (oeR e') e'.l.length (els e'.l)) (hel : ∀ x ∈ e'.l, ElZ w' Z' x)
    (hnew : ∀ g, (oeR e').ownBlock = some g → (oeR e).ownBlock = some g ∨ w.heap.size ≤ g) (hz : ∀ b, Z b → Z' b) (hzn : ∀ b, Z' b → Z b ∨ (w.heap.size ≤ b ∧ b < w'.heap.size ∧ ∀ g, (oeR e').ownBlock = some g → g ≠ b)) :
    ∃ K', Gro w w' K K' Z Z' ∧ Rga base w' K' Z' F { G with op := G.op.set i (oeO e') } { m with oe := m.oe.set i e' } := by
  have hem := List.mem_of_getElem? hi
  have hold : ∀ g, (oeR e').ownBlock = some g → K g ∨ w.heap.size ≤ g := fun g hg => (hnew g hg).imp (h.kR e hem g) id
  have hlt : ∀ g, (oeR e').ownBlock = some g → g < w'.heap.size := fun g hg => (hrow.lt g hg).2
  have hKf : ∀ b, (m.ov.ownBlock = some b ∨ (oeR e).ownBlock = some b) → K b := fun b hb => hb.elim (h.kO b) (h.kR e hem b)
  have hbk : ∀ {b : Nat} {t : TypeId} {cs : Array Value}, Bk w b t cs → t ≠ 40 → t ≠ 79 → w'.heap[b]? = w.heap[b]? := fun {b t cs} hb h1 h2 => hf.block b hb.lt (by
    rintro (e1 | e1)
    · obtain ⟨cur, hc⟩ := own_bk h.o e1
      exact ne_of_type hb hc h2 rfl
    · obtain ⟨cur, hc⟩ := own_bk (h.row e hem) e1
      exact ne_of_type hb hc h1 rfl)
  have hzz : ∀ b, Z b → w'.heap[b]? = w.heap[b]? := fun b hb => hf.block b (h.loZ b hb) fun e1 => h.kz b (hKf b e1) hb
  have hmem : ∀ f ∈ m.oe.set i e', f = e' ∨ (f ∈ m.oe ∧ f.t ≠ e.t) := fun f hf2 => by
    obtain ⟨j, hj, rfl⟩ := List.getElem_of_mem hf2
    rw [List.getElem_set]
    by_cases hij : i = j
    · rw [if_pos hij]
      exact .inl rfl
    · rw [if_neg hij]
      rw [List.length_set] at hj
      exact .inr ⟨List.getElem_mem hj, fun e1 => hij (hnd j _ (List.getElem?_eq_getElem hj) e1).symm⟩
  have hother : ∀ f ∈ m.oe, f.t ≠ e.t → ∀ g, (oeR f).ownBlock = some g → w'.heap[g]? = w.heap[g]? := fun f hf2 hne g hg => hf.block g ((h.row f hf2).lt g hg).2 (by
    rintro (e1 | e1)
    · obtain ⟨cur, hc⟩ := own_bk h.o e1
      obtain ⟨cur2, hc2⟩ := own_bk (h.row f hf2) hg
      exact ne_of_type hc2 hc (by decide) rfl
    · exact hne (h.inj f hf2 e hem g hg e1))
  refine ⟨fun b => K b ∨ (oeR e').ownBlock = some b, ⟨fun _ e => .inl e, hz, fun b hb => hb.elim .inl (hold b), fun b hb => (hzn b hb).imp id fun e => e.1, hf.mono fun b _ hb => hKf b hb⟩, ?_⟩
  exact { blk := (hbk h.blk (by decide) (by decide)).trans h.blk
          o := by
            rw [List.length_set]
            exact hQ
          oE := by
            show (m.oe.set i e').map oeO = G.op.set i (oeO e')
            rw [List.map_set, h.oE]
          row := fun f hf2 => by
            rcases hmem f hf2 with rfl | ⟨h1, h2⟩
            · exact hrow
            · exact own_of (h.row f h1) (hother f h1 h2)
          el := fun f hf2 x hx => by
            rcases hmem f hf2 with rfl | ⟨h1, h2⟩
            · exact hel x hx
            · exact (h.el f h1 x hx).keep hzz hf.size hz
          inj := fun a ha b hb g hg hg2 => by
            rcases hmem a ha with rfl | ⟨ha1, ha2⟩
            · rcases hmem b hb with rfl | ⟨hb1, hb2⟩
              · rfl
              · rcases hnew g hg with h3 | h3
                · exact absurd (h.inj b hb1 e hem g hg2 h3) hb2
                · have := ((h.row b hb1).lt g hg2).2
                  omega
            · rcases hmem b hb with rfl | ⟨hb1, hb2⟩
              · rcases hnew g hg2 with h3 | h3
                · exact absurd (h.inj a ha1 e hem g hg h3) ha2
                · have := ((h.row a ha1).lt g hg).2
                  omega
              · exact h.inj a ha1 b hb1 g hg hg2
          cls := h.cls.keep fun g e1 => by
            obtain ⟨cur, hc⟩ := ClQ.blk h.cls e1
            exact hbk hc (by decide) (by decide)
          clsE := h.clsE
          clz := fun x hx => (h.clz x hx).keep hzz hf.size hz
          all := own_of h.all fun g e1 => by
            obtain ⟨cur, hcur⟩ := own_bk h.all e1
            exact hbk hcur (by decide) (by decide)
          kF := .inl h.kF
          kO := fun g e1 => .inl (h.kO g e1)
          kR := fun f hf2 g hg => by
            rcases hmem f hf2 with rfl | ⟨h1, h2⟩
            · exact .inr hg
            · exact .inl (h.kR f h1 g hg)
          kC := fun g e1 => .inl (h.kC g e1)
          kA := fun g e1 => .inl (h.kA g e1)
          kz := fun b hb hzb => by
            rcases hzn b hzb with hzb | ⟨h1, h2, h3⟩
            · rcases hb with hb | hb
              · exact h.kz b hb hzb
              · rcases hold b hb with h4 | h4
                · exact h.kz b h4 hzb
                · have := h.loZ b hzb
                  omega
            · rcases hb with hb | hb
              · have := (h.lo b hb).2
                omega
              · exact h3 b hb rfl
          lo := fun b hb => by
            rcases hb with hb | hb
            · exact ⟨(h.lo b hb).1, Nat.lt_of_lt_of_le (h.lo b hb).2 hf.size⟩
            · exact ⟨(hrow.lt b hb).1, hlt b hb⟩
          loZ := fun b hb => (hzn b hb).elim (fun e1 => Nat.lt_of_lt_of_le (h.loZ b e1) hf.size) fun e1 => e1.2.1 }
end
end Go.Proofs.YtoojpagpkbcfjaaGreat


/- Layer 20, the document's side: an open trace more, as Add lays it; one changed. -/
namespace Go.Proofs.YtoojpagpkbcfjaaGreat
open Go.RowKit
def newOE (t : Tr) : OE := ⟨t, [], none, 0, 0⟩
abbrev newC (t : Tr) : Array Value := #[.int .u64 (t.hi : Nat), .int .u64 (t.lo : Nat), .slice none 0 0, .int .i64 0]
theorem flatR_setG {α : Type} {f : α → List Value} {k : Nat} (hf : ∀ x, (f x).length = k) {x x' : α} {j : Nat} {u : Value} (hj : j < k) (hx : f x' = (f x).set j u) :
    ∀ {l : List α} {i : Nat}, l[i]? = some x → (flatR f l).set (i * k + j) u = flatR f (l.set i x')
  | [], i, h => by simp at h
  | a :: l, 0, h => by
    simp at h
    subst h
    have e : flatR f (a :: l) = f a ++ flatR f l := rfl
    have e2 : flatR f ((a :: l).set 0 x') = f x' ++ flatR f l := rfl
    rw [e, e2, hx, Nat.zero_mul, Nat.zero_add, List.set_append_left _ _ (by rw [hf]; exact hj)]
  | a :: l, i + 1, h => by
    have ih := flatR_setG hf hj hx (l := l) (i := i) (by simpa using h)
    have e : flatR f (a :: l) = f a ++ flatR f l := rfl
    have e2 : flatR f ((a :: l).set (i + 1) x') = f a ++ flatR f (l.set i x') := rfl
    have hk : (i + 1) * k = i * k + k := Nat.succ_mul _ _
    rw [e, e2, ← ih, List.set_append_right _ _ (by rw [hf]; omega), hf, show (i + 1) * k + j - k = i * k + j from by omega]
section
variable {base F : Nat} {w w' : World} {K K' Z Z' : Nat → Prop} {G : GSt} {m : RM}
/-- What the making of a new open trace comes to: the runs, the worlds. -/
def InsJ (base : Nat) (w : World) (K Z : Nat → Prop) (F : Nat) (G : GSt) (m : RM) (t : Tr) (A : Option Addr) (no c i : Nat) (w6 : World) : Prop :=
  ∃ (A2 : Option Addr) (c2 : Nat) (w2 : World) (A4 : Option Addr) (c4 : Nat) (w4 : World) (A5 : Option Addr) (c5 : Nat) (w5 : World),
    (appKG #[70, 70] 70 #[.slice (some ⟨w.heap.size, 0, none⟩) 0 0, .slice (cutA A c i 4) (no - i) (c - i)]).run Tryz.prog (w.alloc (.cells #[] 79)) = .ok (.slice A2 (no - i) c2) w2 ∧
    Bk w2 F 72 (rgC G m) ∧
    (appKG #[70, 70] 70 #[.slice A i c, .slice (some ⟨w2.heap.size, 0, none⟩) 1 1]).run Tryz.prog (w2.alloc (.cells (newC t) 79)).drew = .ok (.slice A4 (i + 1) c4) w4 ∧
    Bk w4 F 72 (rgC G m) ∧
    (appKG #[70, 70] 70 #[.slice A4 (i + 1) c4, .slice A2 (no - i) c2]).run Tryz.prog w4 = .ok (.slice A5 (no + 1) c5) w5 ∧
    Bk w5 F 72 (rgC G m) ∧ w6 = w5.setCell ⟨F, 4, none⟩ (.slice A5 (no + 1) c5) ∧
    FrK w w2 Kno ∧ FrK w w4 K ∧ FrK w w5 K ∧
    ∃ K', Gro w w6 K K' Z Z ∧ Rga base w6 K' Z F { G with op := G.op.take i ++ ⟨t, [], 0⟩ :: G.op.drop i } { m with ov := .slice A5 (no + 1) c5, oe := m.oe.take i ++ newOE t :: m.oe.drop i }
theorem Rga.insJ (h : Rga base w K Z F G m) (t : Tr) {A : Option Addr} {no c i : Nat} (hv : m.ov = .slice A no c) (hno : m.oe.length = no) (hi : i ≤ no) (hol : no ≤ 1000000) : ∃ w6, InsJ base w K Z F G m t A no c i w6 := by
  have ho := h.o
  rw [hno, hv] at ho
  have hnc : no ≤ c := by
    obtain ⟨A1, c1, e, h1, -⟩ := own_form ho
    cases e
    exact h1
  have hrd : Rd w w.heap.size A (flatR oeC m.oe) := Rd.of_own ho
  -- the rest
  have b1 : Below w.heap.size w (w.alloc (.cells #[] 79)) := (Below.refl _ w).alloc (Nat.le_refl _) _
  have own1 : (w.alloc (.cells #[] 79)).ownsRow w.heap.size 79 4 (.slice (some ⟨w.heap.size, 0, none⟩) 0 0) 0 (flatR oeC []) := World.ownsRow_lit w #[] 0 (Nat.le_refl _) (by simp [maxLen]) rfl
  have rd1 : Rd (w.alloc (.cells #[] 79)) (w.alloc (.cells #[] 79)).heap.size (cutA A c i 4) (flatR oeC (m.oe.drop i)) := Rd.dropO (Rd.more (Rd.below hrd b1) b1.size) (by omega)
  have hdl : (m.oe.drop i).length = no - i := by rw [List.length_drop, hno]
  obtain ⟨A2, c2, w2, hrun2, own2, gr2, bl2⟩ := run_appO (c := c - i) own1 b1.size rd1 hdl (by omega)
  rw [Nat.zero_add, List.nil_append] at own2
  rw [Nat.zero_add] at hrun2 bl2
  have f2 : FrK w w2 Kno := (FrK.of_below b1 (Nat.le_refl _) Kno).trans (FrK.of_grown (K := fun q => w.heap.size ≤ q) gr2 fun q _ e => (own1.lt q e).1) fun q hq e => absurd e (by omega)
  have h2 := h.below (f2.below (Nat.le_refl _) fun _ e => e.elim)
  -- the new one
  have b3 : Below w2.heap.size w2 (w2.alloc (.cells (newC t) 79)).drew := ((Below.refl _ w2).alloc (Nat.le_refl _) _).drew
  have lit3 : Bk (w2.alloc (.cells (newC t) 79)).drew w2.heap.size 79 (newC t) := Bk.new w2 79 (newC t)
  obtain ⟨w3, e3⟩ : ∃ w3, (w2.alloc (.cells (newC t) 79)).drew = w3 := ⟨_, rfl⟩
  rw [e3] at b3 lit3
  have h3 := h2.below b3
  have ho3 := h3.o
  rw [hno, hv] at ho3
  have own3 := own_takeK ho3 hi
  rw [flatR_take oeC_length] at own3
  have rd3 : Rd w3 w3.heap.size (some ⟨w2.heap.size, 0, none⟩) (flatR oeC [newOE t]) := fun _ => ⟨w2.heap.size, 0, rfl, lit3.lt, fun j u hu => by
    rw [Nat.zero_add, lit3.cell j]
    simpa [flatR, oeC, newOE, newC] using hu⟩
  obtain ⟨A4, c4, w4, hrun4, own4, gr4, bl4⟩ := run_appO (m := 1) (c := 1) own3 h3.baseLe rd3 rfl (by omega)
  have hov : ∀ q, (Value.slice A i c).ownBlock = some q → m.ov.ownBlock = some q := fun q e => by
    rw [hv]
    cases A with
    | none => cases e
    | some a => exact e
  have f34 : FrK w3 w4 (fun q => m.ov.ownBlock = some q) := FrK.of_grown gr4 fun q _ e => hov q e
  have f03 : FrK w w3 Kno := f2.trans (FrK.of_below b3 (Nat.le_refl _) Kno) fun _ _ e => e
  have f04 : FrK w w4 (fun q => m.ov.ownBlock = some q) := (f03.mono fun _ _ e => e.elim).trans f34 fun _ _ e => e
  have hovlt : ∀ q, m.ov.ownBlock = some q → q < w.heap.size := fun q e => (h.o.lt q e).2
  have own2' : w4.ownsRow w.heap.size 79 4 (.slice A2 (no - i) c2) (no - i) (flatR oeC (m.oe.drop i)) := own_of (own_of own2 fun q e => b3.block q (own2.lt q e).2) fun q e => f34.block q (Nat.lt_of_lt_of_le (own2.lt q e).2 b3.size) fun e2 => by
    have := hovlt q e2
    have := (own2.lt q e).1
    omega
  have rd4 := Rd.of_own own2'
  have hb4 : base ≤ w4.heap.size := by have := h.baseLe; have := f04.size; omega
  obtain ⟨A5, c5, w5, hrun5, own5, gr5, bl5⟩ := run_appO (c := c2) own4 hb4 rd4 hdl (by omega)
  have hn5 : i + 1 + (no - i) = no + 1 := by omega
  rw [hn5] at hrun5 own5 bl5
  have hbl4 : ∀ q, (Value.slice A4 (i + 1) c4).ownBlock = some q → m.ov.ownBlock = some q ∨ w.heap.size ≤ q := fun q e => by
    rcases bl4 with e2 | e2
    · exact .inl (hov q (e2 ▸ e))
    · rw [e2] at e
      cases e
      exact .inr (by have := f03.size; omega)
  have f05 : FrK w w5 (fun q => m.ov.ownBlock = some q) := f04.trans (FrK.of_grown (K := fun q => m.ov.ownBlock = some q ∨ w.heap.size ≤ q) gr5 fun q _ e => hbl4 q e) fun q hq e => e.elim id fun e => absurd e (by omega)
  have hFo : ∀ q, m.ov.ownBlock = some q → q ≠ F := fun q e => by
    obtain ⟨cur, hc⟩ := own_bk h.o e
    exact ne_of_type hc h.blk (by decide)
  have k4 := f04.bk h.blk fun e => hFo F e rfl
  have k5 := f05.bk h.blk fun e => hFo F e rfl
  have fs := FrK.set w5 F 4 (.slice A5 (no + 1) c5)
  have hF5 : (Value.slice A5 (no + 1) c5).ownBlock ≠ some F := fun e => by
    obtain ⟨cur, hc⟩ := own_bk own5 e
    exact ne_of_type hc k5 (by decide) rfl
  have hln : (m.oe.take i ++ newOE t :: m.oe.drop i).length = no + 1 := by
    rw [List.length_append, List.length_cons, hdl, List.length_take, hno]
    omega
  obtain ⟨K', g6, R6⟩ := h.insO (w' := w5.setCell ⟨F, 4, none⟩ (.slice A5 (no + 1) c5)) (v' := .slice A5 (no + 1) c5) (oe' := m.oe.take i ++ newOE t :: m.oe.drop i) (op' := G.op.take i ++ ⟨t, [], 0⟩ :: G.op.drop i) ((f05.mono fun _ _ e => .inr e).trans fs fun q _ e => .inl e) (k5.set 4 _)
    (by
      rw [hln]
      have e5 : m.oe.take i ++ newOE t :: m.oe.drop i = m.oe.take i ++ [newOE t] ++ m.oe.drop i := by simp
      rw [e5]
      exact own_of own5 fun q e => fs.block q (own5.lt q e).2 fun e2 => hF5 ((show q = F from e2) ▸ e))
    (fun e he => by
      rcases List.mem_append.1 he with he | he
      · exact .inl (List.mem_of_mem_take he)
      · rcases List.mem_cons.1 he with rfl | he
        · exact .inr ⟨rfl, rfl, rfl⟩
        · exact .inl (List.mem_of_mem_drop he))
    (by
      rw [List.map_append, List.map_cons, List.map_take, List.map_drop, h.oE]
      rfl)
    (fun q e => by
      rcases bl5 with e2 | e2
      · exact hbl4 q (e2 ▸ e)
      · rw [e2] at e
        cases e
        exact .inr f04.size)
  have hK : ∀ q, m.ov.ownBlock = some q → K q := h.kO
  exact ⟨_, A2, c2, w2, A4, c4, w4, A5, c5, w5, hrun2, h2.blk, (by rw [e3]; exact hrun4), k4, hrun5, k5, rfl, f2, f04.mono fun q _ e => hK q e, f05.mono fun q _ e => hK q e, K', g6, R6⟩
end
end Go.Proofs.YtoojpagpkbcfjaaGreat


/- Layer 20, the document's side: a span more in an open trace. -/
namespace Go.Proofs.YtoojpagpkbcfjaaGreat
open Go.RowKit
section
variable {base F : Nat} {w w' : World} {K K' Z Z' : Nat → Prop} {G : GSt} {m : RM}
/-- The span's copy put, the time set. -/
def nxE (e : OE) (s : Sp) (A' : Option Addr) (n c' : Nat) (A7 : Option Addr) (c7 : Nat) (now : Int) : OE := ⟨e.t, e.l ++ [⟨s, A', n, c'⟩], A7, c7, now⟩
def SetJ (base : Nat) (w w5 : World) (K Z : Nat → Prop) (F : Nat) (G : GSt) (m : RM) (b i lx : Nat) (e : OE) (s : Sp) (A' : Option Addr) (n c' : Nat) : Prop :=
  ∃ (A7 : Option Addr) (c7 : Nat) (w7 : World),
    (appKG #[45, 45] 45 #[.slice e.A lx e.c, .slice (some ⟨w5.heap.size, 0, none⟩) 1 1]).run Tryz.prog (w5.alloc (.cells (spC s A' n c') 40)) = .ok (.slice A7 (lx + 1) c7) w7 ∧
    FrK w w7 (fun q => (oeR e).ownBlock = some q) ∧ Bk w7 F 72 (rgC G m) ∧ w7.ownsRow base 79 4 m.ov m.oe.length (flatR oeC m.oe) ∧
    Bk (w7.setCell ⟨b, i * 4 + 2, none⟩ (.slice A7 (lx + 1) c7)) F 72 (rgC G m) ∧ (w7.setCell ⟨b, i * 4 + 2, none⟩ (.slice A7 (lx + 1) c7)).ownsRow base 79 4 m.ov m.oe.length (flatR oeC (m.oe.set i { e with l := e.l ++ [⟨s, A', n, c'⟩], A := A7, c := c7 })) ∧
    ∃ K' Z', Gro w ((w7.setCell ⟨b, i * 4 + 2, none⟩ (.slice A7 (lx + 1) c7)).setCell ⟨b, i * 4 + 3, none⟩ (.int .i64 G.now)) K K' Z Z' ∧
      Rga base ((w7.setCell ⟨b, i * 4 + 2, none⟩ (.slice A7 (lx + 1) c7)).setCell ⟨b, i * 4 + 3, none⟩ (.int .i64 G.now)) K' Z' F { G with op := G.op.set i ⟨e.t, sps e.l ++ [s], G.now⟩ } { m with oe := m.oe.set i (nxE e s A' n c' A7 c7 G.now) }
theorem Rga.setJ {w5 : World} (h : Rga base w K Z F G m) (hs : OpS G.op) {b no c i lx n c' : Nat} {e : OE} {s : Sp} {A' : Option Addr} (hv : m.ov = .slice (some ⟨b, 0, none⟩) no c) (hno : m.oe.length = no) (hi : m.oe[i]? = some e) (hlx : e.l.length = lx) (hl : lx ≤ 100000)
    (hb5 : Below w.heap.size w w5) (hr5 : RbT w5 w5.heap.size A' s.tags) (hn : s.tags.length = n) (hnm : n ≤ 1000000) (hlo5 : ∀ a, A' = some a → w.heap.size ≤ a.block) : SetJ base w w5 K Z F G m b i lx e s A' n c' := by
  have hem := List.mem_of_getElem? hi
  have hil : i < no := by rw [← hno]; exact (List.getElem?_eq_some_iff.1 hi).1
  have h5 := h.below hb5
  have b6 : Below w5.heap.size w5 (w5.alloc (.cells (spC s A' n c') 40)) := (Below.refl _ w5).alloc (Nat.le_refl _) _
  have lit6 := Bk.new w5 40 (spC s A' n c')
  have s6 : (w5.alloc (.cells (spC s A' n c') 40)).heap.size = w5.heap.size + 1 := by simp
  unfold SetJ
  obtain ⟨w6, e6⟩ : ∃ w6, w5.alloc (.cells (spC s A' n c') 40) = w6 := ⟨_, rfl⟩
  rw [e6] at b6 lit6 s6 ⊢
  have h6 := h5.below b6
  have own6 := h6.row e hem
  have hv6 : oeR e = .slice e.A lx e.c := by rw [← hlx]
  rw [hv6, hlx] at own6
  have rd6 : Rd w6 w6.heap.size (some ⟨w5.heap.size, 0, none⟩) (els [⟨s, A', n, c'⟩]) := fun _ => ⟨w5.heap.size, 0, rfl, lit6.lt, fun j u hu => by
    rw [Nat.zero_add, lit6.cell j]
    simpa [els, elC] using hu⟩
  obtain ⟨i0, hi0, hz0, hz1, hz2⟩ := info_parts spinfo
  obtain ⟨v7, w7, hrun7, own7, gr7, bl7, ⟨A7, c7, rfl⟩, -⟩ := run_app (P := Tryz.prog) (w := w6) base 45 45 40 i0 _ 11 120 Tryz.underlying45 hi0 hz0 hz1 hz2 rfl (by omega) (.slice e.A lx e.c) lx (els e.l) own6 w6.heap.size (some ⟨w5.heap.size, 0, none⟩) 1 1 (els [⟨s, A', n, c'⟩]) (by rw [els_length]; rfl) rd6 (els_one _) (by simp only [maxLen]; omega) (by omega) h6.baseLe
  rw [← els_append] at own7
  have f67 : FrK w6 w7 (fun q => (oeR e).ownBlock = some q) := FrK.of_grown gr7 fun q _ e1 => by rw [hv6]; exact e1
  have f06 : FrK w w6 Kno := (FrK.of_below hb5 (Nat.le_refl _) Kno).trans (FrK.of_below b6 (Nat.le_refl _) Kno) fun _ _ e => e
  have f07 : FrK w w7 (fun q => (oeR e).ownBlock = some q) := (f06.mono fun _ _ e => e.elim).trans f67 fun _ _ e => e
  have hesp : ∀ q, (oeR e).ownBlock = some q → ∃ cur, Bk w q 40 cur := fun q hq => own_bk (h.row e hem) hq
  have k7 := f07.bk h.blk fun e1 => by
    obtain ⟨cur, hc⟩ := hesp F e1
    exact ne_of_type hc h.blk (by decide) rfl
  have ho7 : w7.ownsRow base 79 4 m.ov m.oe.length (flatR oeC m.oe) := own_of h.o fun q hq => f07.block q (h.o.lt q hq).2 fun e1 => by
    obtain ⟨cur, hc⟩ := own_bk h.o hq
    obtain ⟨cur2, hc2⟩ := hesp q e1
    exact ne_of_type hc2 hc (by decide) rfl
  have hbo : m.ov.ownBlock = some b := by rw [hv]; rfl
  obtain ⟨cb, kb7⟩ := own_bk ho7 hbo
  have hbF : b ≠ F := ne_of_type kb7 k7 (by decide)
  have f8 := FrK.set w7 b (i * 4 + 2) (.slice A7 (lx + 1) c7)
  have k8 := f8.bk k7 (fun e1 => hbF e1.symm)
  rw [hno, hv] at ho7
  have ho8 := (ho7.stored (i * 4 + 2) (.slice A7 (lx + 1) c7)).1
  have hs1 := flatR_setG oeC_length (x := e) (x' := { e with l := e.l ++ [⟨s, A', n, c'⟩], A := A7, c := c7 }) (j := 2) (u := .slice A7 (lx + 1) c7) (by omega) (by simp [oeC, hlx]) hi
  rw [hs1] at ho8
  have hi2 : (m.oe.set i { e with l := e.l ++ [⟨s, A', n, c'⟩], A := A7, c := c7 })[i]? = some { e with l := e.l ++ [⟨s, A', n, c'⟩], A := A7, c := c7 } := by
    rw [List.getElem?_set_self (by omega)]
  have hs2 := flatR_setG oeC_length (x' := nxE e s A' n c' A7 c7 G.now) (j := 3) (u := .int .i64 G.now) (by omega) (by simp [oeC, nxE]) hi2
  rw [List.set_set] at hs2
  have ho9 := (ho8.stored (i * 4 + 3) (.int .i64 G.now)).1
  rw [hs2] at ho9
  have f9 := FrK.set (w7.setCell ⟨b, i * 4 + 2, none⟩ (.slice A7 (lx + 1) c7)) b (i * 4 + 3) (.int .i64 G.now)
  have f79 := f8.trans f9 fun _ _ e => e
  have f09 : FrK w ((w7.setCell ⟨b, i * 4 + 2, none⟩ (.slice A7 (lx + 1) c7)).setCell ⟨b, i * 4 + 3, none⟩ (.int .i64 G.now)) (fun q => m.ov.ownBlock = some q ∨ (oeR e).ownBlock = some q) := (f07.mono fun _ _ e => .inr e).trans f79 fun q _ e => .inl (by rw [hbo, show q = b from e])
  have hb7 : ∀ q, (Value.slice A7 (lx + 1) c7).ownBlock = some q → q ≠ b := fun q e1 => by
    obtain ⟨cur, hc⟩ := own_bk own7 e1
    exact ne_of_type hc kb7 (by decide)
  have hnew : ∀ g, (Value.slice A7 (lx + 1) c7).ownBlock = some g → (oeR e).ownBlock = some g ∨ w5.heap.size < g := fun g hg => by
    rcases bl7 with e1 | e1
    · exact .inl (by rw [hv6, ← e1]; exact hg)
    · rw [e1] at hg
      cases hg
      exact .inr (by omega)
  have hx' : oeR (nxE e s A' n c' A7 c7 G.now) = .slice A7 (lx + 1) c7 := by
    show Value.slice A7 (e.l ++ [_]).length c7 = _
    rw [List.length_append, hlx]
    rfl
  have hsz := hb5.size
  have hndp : ∀ j f, m.oe[j]? = some f → f.t = e.t → j = i := fun j f hj ht => by
    have h1 := h.at hj
    have h2 := h.at hi
    obtain ⟨h3, h4⟩ := List.getElem?_eq_some_iff.1 h1
    obtain ⟨h5, h6⟩ := List.getElem?_eq_some_iff.1 h2
    rcases Nat.lt_trichotomy j i with h7 | h7 | h7
    · have := (List.pairwise_iff_getElem.1 hs) j i h3 h5 h7
      rw [h4, h6] at this
      simp only [oeO] at this
      rw [ht, Tr.lt_irr] at this
      cases this
    · exact h7
    · have := (List.pairwise_iff_getElem.1 hs) i j h5 h3 h7
      rw [h4, h6] at this
      simp only [oeO] at this
      rw [ht, Tr.lt_irr] at this
      cases this
  obtain ⟨K', g9, R9⟩ := h.setE (w' := (w7.setCell ⟨b, i * 4 + 2, none⟩ (.slice A7 (lx + 1) c7)).setCell ⟨b, i * 4 + 3, none⟩ (.int .i64 G.now)) (Z' := fun q => Z q ∨ (w.heap.size ≤ q ∧ q < w5.heap.size)) (e' := nxE e s A' n c' A7 c7 G.now) hi hndp rfl f09
    (by rw [hno, hv]; exact ho9)
    (by
      rw [hx']
      have e1 : (nxE e s A' n c' A7 c7 G.now).l.length = lx + 1 := by
        show (e.l ++ [_]).length = _
        rw [List.length_append, hlx]
        rfl
      rw [e1]
      exact own_of own7 fun q hq => f79.block q (own7.lt q hq).2 fun e2 => hb7 q hq e2)
    (fun x hx => by
      have hzk : ∀ q, (Z q ∨ (w.heap.size ≤ q ∧ q < w5.heap.size)) → ((w7.setCell ⟨b, i * 4 + 2, none⟩ (.slice A7 (lx + 1) c7)).setCell ⟨b, i * 4 + 3, none⟩ (.int .i64 G.now)).heap[q]? = w5.heap[q]? := fun q hq => by
        have hql : q < w5.heap.size := hq.elim (fun e1 => Nat.lt_of_lt_of_le (h.loZ q e1) hsz) fun e1 => e1.2
        have e1 := b6.block q hql
        have hnk : ¬K q := fun e2 => hq.elim (fun e3 => h.kz q e2 e3) fun e3 => by
          have := (h.lo q e2).2
          omega
        have e2 := f67.block q (Nat.lt_of_lt_of_le hql b6.size) fun e3 => hnk (h.kR e hem q e3)
        have e3 := f79.block q (Nat.lt_of_lt_of_le (Nat.lt_of_lt_of_le hql b6.size) f67.size) fun e4 => hnk (h.kO q (by rw [hbo, show q = b from e4]))
        exact e3.trans (e2.trans e1)
      have hs59 : w5.heap.size ≤ ((w7.setCell ⟨b, i * 4 + 2, none⟩ (.slice A7 (lx + 1) c7)).setCell ⟨b, i * 4 + 3, none⟩ (.int .i64 G.now)).heap.size := Nat.le_trans b6.size (Nat.le_trans f67.size f79.size)
      rcases List.mem_append.1 hx with hx | hx
      · have h1 : ElZ w5 (fun q => Z q ∨ (w.heap.size ≤ q ∧ q < w5.heap.size)) x := (h.el e hem x hx).keep (fun q hq => hb5.block q (h.loZ q hq)) hsz fun _ e1 => .inl e1
        exact h1.keep hzk hs59 fun _ e1 => e1
      · rw [List.mem_singleton.1 hx]
        have h1 : ElZ w5 (fun q => Z q ∨ (w.heap.size ≤ q ∧ q < w5.heap.size)) ⟨s, A', n, c'⟩ := ⟨⟨hr5, hn, by show n ≤ _; omega⟩, fun hne a ha => .inr ⟨hlo5 a ha, by
          obtain ⟨b1, o1, e1, h2, -⟩ := hr5 (fun e1 => hne (by
            cases hq : s.tags with
            | nil => rfl
            | cons x l => rw [hq] at e1; simp [tgs] at e1))
          rw [e1] at ha
          cases ha
          exact h2⟩⟩
        exact h1.keep hzk hs59 fun _ e1 => e1)
    (fun g hg => by
      rw [hx'] at hg
      exact (hnew g hg).imp id fun e1 => by omega)
    (fun _ e1 => .inl e1)
    (fun q hq => hq.imp id fun e1 => ⟨e1.1, Nat.lt_of_lt_of_le e1.2 (Nat.le_trans b6.size (Nat.le_trans f67.size f79.size)), fun g hg e2 => by
      rw [hx'] at hg
      rcases hnew g hg with e3 | e3
      · have := ((h.row e hem).lt g e3).2
        omega
      · omega⟩)
  have e10 : oeO (nxE e s A' n c' A7 c7 G.now) = ⟨e.t, sps e.l ++ [s], G.now⟩ := by
    show Opn.mk e.t (sps (e.l ++ [_])) G.now = _
    simp [sps]
  rw [e10] at R9
  exact ⟨A7, c7, w7, hrun7, f07, k7, by rw [hno, hv]; exact ho7, k8, by rw [hno, hv]; exact ho8, K', _, g9, R9⟩
end
end Go.Proofs.YtoojpagpkbcfjaaGreat


/- Layer 20, the document's side: Add, walked (printed by tools/genGaR.py out of tools/genRgM.txt). -/
namespace Go.Proofs.YtoojpagpkbcfjaaGreat
open Go.RowKit
attribute [local go_sem ↓] loadTr_shut appKG_shut storeKO_shut loadOT_shut loadSp_shut
section
variable {base F : Nat} {w w' : World} {K K' Z Z' : Nat → Prop} {G : GSt} {m : RM}
/-- What the region of the copy reads. -/
def Ad15 (F r b i lx n1 cc : Nat) (e1 : OE) (s : Sp) (A : Option Addr) (n c : Nat) (w : World) : Prop :=
  w.cell? ⟨F, 4, none⟩ = some (.slice (some ⟨b, 0, none⟩) n1 cc) ∧ w.cell? ⟨b, i * 4 + 2, none⟩ = some (.slice e1.A lx e1.c) ∧ (loadK 40 ⟨r, 0, none⟩).run Tryz.prog w = .ok (spV s A n c) w
set_option maxRecDepth 100000 in
theorem ldSpR {w : World} {g n c : Nat} {s : Sp} {A : Option Addr} (h : Bk w g 40 (spC s A n c)) : (loadK 40 ⟨g, 0, none⟩).run Tryz.prog w = .ok (spV s A n c) w :=
  run_loadVar_cells w _ _ ⟨g, 0, none⟩ (spC s A n c).toList Tryz.underlying40 rfl (by rfl) (fun j v hv => by
    rw [Addr.add_lit, Nat.zero_add, h.cell j]
    simpa using hv)
theorem ad15_of {F r b i lx n1 cc n c : Nat} {e1 : OE} {s : Sp} {A : Option Addr} (hF : Bk w F 72 (rgC G m)) (ho : w.ownsRow base 79 4 m.ov m.oe.length (flatR oeC m.oe)) (hv : m.ov = .slice (some ⟨b, 0, none⟩) n1 cc) (hn : m.oe.length = n1) (hi : m.oe[i]? = some e1) (hlx : e1.l.length = lx) (hr : Bk w r 40 (spC s A n c)) : Ad15 F r b i lx n1 cc e1 s A n c w := by
  refine ⟨by rw [hF.cell 4, ← hv]; rfl, ?_, ldSpR hr⟩
  rw [hv, hn] at ho
  have hil := (List.getElem?_eq_some_iff.1 hi).1
  rw [ho.cellAt (i * 4 + 2) (by omega), flatR_get oeC_length hi 2 (by omega), ← hlx]
  rfl
theorem Rga.ad15 {F r b i lx n1 cc n c : Nat} {e1 : OE} {s : Sp} {A : Option Addr} (h : Rga base w K Z F G m) (hv : m.ov = .slice (some ⟨b, 0, none⟩) n1 cc) (hi : m.oe[i]? = some e1) (hlx : e1.l.length = lx) (hr : Bk w r 40 (spC s A n c)) : Ad15 F r b i lx n1 cc e1 s A n c w := by
  refine ad15_of h.blk h.o hv ?_ hi hlx hr
  obtain ⟨A1, c1, e, -⟩ := own_form h.o
  rw [hv] at e
  injection e with e2 e3 e4
  exact e3.symm
theorem rdFr {w w' : World} {A : Option Addr} {xs : List Value} {K : Nat → Prop} (h : Rd w w.heap.size A xs) (hf : FrK w w' K) (hk : xs ≠ [] → ∀ a, A = some a → ¬K a.block) : Rd w' w'.heap.size A xs := fun hn => by
  obtain ⟨b, o, rfl, hb, hc⟩ := h hn
  exact ⟨b, o, rfl, Nat.lt_of_lt_of_le hb hf.size, fun j u hu => (World.cell?_of_block (a := ⟨b, o + j, none⟩) (hf.block b hb (hk hn _ rfl))).trans (hc j u hu)⟩
/-- What Add comes to. -/
def RAddP (base : Nat) (w : World) (K Z : Nat → Prop) (F : Nat) (G : GSt) (s : Sp) (e : Ending) (w' : World) : Prop :=
  e = .returned (.tuple #[.int .i64 ((G.add s).2.1 : Nat), .int .i64 ((G.add s).2.2 : Nat)]) ∧ ∃ K' Z' m', Gro w w' K K' Z Z' ∧ Rga base w' K' Z' F (G.add s).1 m'
set_option maxRecDepth 100000 in
set_option maxHeartbeats 40000000 in
theorem rgAdd {k n c : Nat} {s : Sp} {A : Option Addr} (h : Rga base w K Z F G m) (hok : G.Ok k) (hk : k ≤ 1000) (hall : G.all.length + G.op.length ≤ k + k) (ha : RbT w w.heap.size A s.tags) (hap : tgs s.tags ≠ [] → ∀ a, A = some a → ¬K a.block) (hn : s.tags.length = n) (hnl : n ≤ 9223372036854775807) :
    Calls Tryz.prog 17 #[ptV F, spV s A n c] w (RAddP base w K Z F G s) := by
  have b1 := Bk.new w 40 (spC s A n c)
  have bb1 : Below w.heap.size w (w.alloc (.cells (spC s A n c) 40)) := (Below.refl _ w).alloc (Nat.le_refl _) _
  have hrk : ¬K w.heap.size := fun e => by have := (h.lo _ e).2; omega
  obtain ⟨w1, e1⟩ : ∃ w1, w.alloc (.cells (spC s A n c) 40) = w1 := ⟨_, rfl⟩
  obtain ⟨r, hr⟩ : ∃ r, w.heap.size = r := ⟨_, rfl⟩
  rw [e1] at b1 bb1
  have h1 := h.below bb1
  rw [hr] at b1 hrk
  have CN := Lib.hid (rgNone h1)
  have CC := Lib.hid (rSpCheck (c := c) s w1 (Rd.below ha bb1) hn bb1.size hnl)
  have l1 := ldSpR b1
  obtain ⟨q, hq⟩ : ∃ q : Nat, spChk s = q := ⟨_, rfl⟩
  rw [hq] at CC
  have H1 := Lib.hid h1
  have B1 := Lib.hid b1
  have BB1 := Lib.hid bb1
  have E1 := Lib.hid e1
  have HR := Lib.hid hr
  have HRK0 := Lib.hid hrk
  have HQ := Lib.hid hq
  have HOK := Lib.hid hok
  have HA := Lib.hid (And.intro ha hn)
  have HALL := Lib.hid hall
  have H0 := Lib.hid h
  have HAP := Lib.hid hap
  clear h h1 b1 bb1 e1 hr hrk hq hok ha hn hall hap
  go_enter Tryz.func17, Tryz.ntmps17
  go_wp2_with fail
  rw [E1.out, HR.out]
  refine CN.out.mono ?_
  rintro e w2 ⟨rfl, rfl⟩
  go_wp2_with fail
  refine CC.out.mono ?_
  rintro e w2 ⟨rfl, hb2⟩
  have H2 := Lib.hid (H1.out.below hb2)
  have BB2 := Lib.hid (BB1.out.trans (hb2.mono BB1.out.size))
  have B2 := Lib.hid (B1.out.below hb2 B1.out.lt)
  clear hb2 l1 CC CN
  by_cases hq0 : q = 0
  case neg =>
    have hqb : ((q : Int) != 0) = true := by simp; omega
    have hadd : G.add s = (G, 0, q) := by
      rw [GSt.add_eq, if_pos (by rw [HQ.out]; exact hq0), HQ.out]
    have HAD := Lib.hid hadd
    clear hadd
    go_wp2_with fail
    go_ret2
    unfold RAddP
    rw [HAD.out]
    exact ⟨rfl, K, Z, m, Gro.refl (FrK.of_below BB2.out (Nat.le_refl _) K), H2.out⟩
  subst hq0
  have hn16 := chk_tags HQ.out
  have HN : Hid (s.tags.length = n ∧ n ≤ 16) := Lib.hid ⟨HA.out.2, by have := HA.out.2; omega⟩
  have t2 : (loadK 37 ⟨r, 0, none⟩).run Tryz.prog w2 = .ok (trV s.tr) w2 := ldTrB (o := 0) (a := s.hi) (b := s.lo) B2.out rfl rfl
  have CE := Lib.hid (rgEver H2.out s.tr (by have := HALL.out; omega))
  obtain ⟨qe, hqe⟩ : ∃ qe, decide (s.tr ∈ G.all) = qe := ⟨_, rfl⟩
  rw [hqe] at CE
  clear hn16
  go_wp2_with fail
  refine CE.out.mono ?_
  rintro e w3 ⟨rfl, hb3⟩
  have H3 := Lib.hid (H2.out.below hb3)
  have BB3 := Lib.hid (BB2.out.trans (hb3.mono BB2.out.size))
  have B3 := Lib.hid (B2.out.below hb3 B2.out.lt)
  clear hb3 t2 CE
  cases qe with
  | true =>
    have hin : s.tr ∈ G.all := by simpa using hqe
    have c7 : w3.cell? ⟨F, 7, none⟩ = some (.int .i64 (G.late : Nat)) := (H3.out.blk.cell 7).trans rfl
    have g7 := H3.out.blk.frozen 7
    have hlate := HOK.out.late
    have hwr : IntKind.i64.wrap ((G.late : Int) + 1) = ((G.late + 1 : Nat) : Int) := by simp [IntKind.wrap, IntKind.bits, IntKind.signed]; omega
    have hadd : G.add s = ({ G with late := G.late + 1 }, 2, 0) := by
      rw [GSt.add_eq, if_neg (by rw [HQ.out]; decide), if_pos hin]
    have HAD := Lib.hid hadd
    have HG4 := Lib.hid (H3.out.stored (G' := { G with late := G.late + 1 }) 7 (.int .i64 ((G.late + 1 : Nat) : Int)) (by simp [rgC]) rfl rfl rfl)
    have HF4 := Lib.hid ((FrK.of_below BB3.out (Nat.le_refl _) K).trans (FrK.set w3 F 7 (.int .i64 ((G.late + 1 : Nat) : Int))) fun b _ e => (show b = F from e) ▸ H0.out.kF)
    clear hadd hin hqe hlate
    go_wp2_with fail
    go_ret2
    unfold RAddP
    rw [HAD.out]
    exact ⟨rfl, K, Z, m, Gro.refl HF4.out, HG4.out⟩
  | false =>
  have hnin : s.tr ∉ G.all := by simpa using hqe
  have HNIN := Lib.hid hnin
  clear hqe hnin
  obtain ⟨no, hno⟩ : ∃ no, m.oe.length = no := ⟨_, rfl⟩
  obtain ⟨A0, c0, hv0, -, -⟩ := own_form H3.out.o
  rw [hno] at hv0
  have hno' : no ≤ 1000 := by have := H3.out.oN; have := HOK.out.num; omega
  have HV0 := Lib.hid (And.intro hv0 hno)
  have HRK : Hid (∀ q, K q → q ≠ r) := Lib.hid fun q hq e => HRK0.out (e ▸ hq)
  clear hv0 hno
  go_wp2_with fail
  go_loopw [7] (fun i_ wr => ∃ j : Nat, j ≤ no ∧ i_ = .int .i64 j ∧ Hid (∀ j' y, j' < j → G.op[j']? = some y → Tr.lt y.t s.tr = true) ∧ Hid (Below w3.heap.size w3 wr)) (fun i_ _ => no - (intOf i_).toNat)
  case atStart => exact ⟨0, Nat.zero_le _, rfl, Lib.hid (fun j' y hj => by omega), Lib.hid (Below.refl _ _)⟩
  case round =>
    obtain ⟨i, hi, rfl, HPOS, HB⟩ := hrel
    have hbd : Below w3.heap.size w3 wr.drew := below_drewN HB.out 1
    have hd := H3.out.below hbd
    have bd := B3.out.below hbd B3.out.lt
    have c4 : wr.cell? ⟨F, 4, none⟩ = some (.slice A0 no c0) := by rw [show wr.cell? ⟨F, 4, none⟩ = wr.drew.cell? ⟨F, 4, none⟩ from rfl, hd.blk.cell 4, ← HV0.out.1]; rfl
    by_cases hlt : i < no
    case neg =>
      obtain rfl : i = no := by omega
      have hlt' : ¬(i : Int) < (i : Int) := by omega
      clear hbd hd bd
      go_wp2_with fail
      go_quiet (fail)
      obtain ⟨wy, ewy⟩ : ∃ wy, wr.drewN nq = wy := ⟨_, rfl⟩
      have hby : Below w3.heap.size w3 wy := by rw [← ewy]; exact below_drewN HB.out nq
      have c4 : wy.cell? ⟨F, 4, none⟩ = some (.slice A0 i c0) := by rw [(H3.out.below hby).blk.cell 4, ← HV0.out.1]; rfl
      have HBY := Lib.hid hby
      rw [ewy]
      clear hby ewy
      go_wp2_with fail
      go_quiet (fail)
      clear c4
      obtain ⟨wz, ewz⟩ : ∃ wz, wy.drewN nq = wz := ⟨_, rfl⟩
      have hbz : Below w3.heap.size w3 wz := by rw [← ewz]; exact below_drewN HBY.out nq
      rw [ewz]
      obtain ⟨no, hnoi⟩ : ∃ no, i = no := ⟨_, rfl⟩
      have HV0 : Hid (m.ov = .slice A0 no c0 ∧ m.oe.length = no) := Lib.hid (by rw [← hnoi]; exact HV0.out)
      have hi : i ≤ no := by omega
      have hno' : no ≤ 1000 := by omega
      have RZ := Lib.hid (H3.out.below hbz)
      have BZ := Lib.hid (B3.out.below hbz B3.out.lt)
      have GZ : Hid (Gro w wz K K Z Z) := Lib.hid (Gro.refl (FrK.of_below (BB3.out.trans (hbz.mono BB3.out.size)) (Nat.le_refl _) K))
      have HNE : Hid (∀ z, G.op[i]? = some z → Tr.lt z.t s.tr = false ∧ z.t ≠ s.tr) := Lib.hid fun z hz => by
        have h6 := (List.getElem?_eq_some_iff.1 hz).1
        have := H3.out.oN
        have := HV0.out.2
        omega
      clear hbz ewz hnoi hlt hlt'
      obtain ⟨w6, J6⟩ := RZ.out.insJ s.tr HV0.out.1 HV0.out.2 hi (by omega)
      obtain ⟨A2, c2, w2i, A4, c4i, w4, A5, c5, w5i, hrun2, kb2, hrun4, kb4, hrun5, kb5, hw6, f2, f4, f5, K1, g6, R6⟩ := J6
      have hsl : ∀ W, (Instr.slice 70 (.slice A0 no c0) (some (.int .i64 (i : Int))) none none).run Tryz.prog W = .ok (.slice (cutA A0 c0 i 4) (no - i) (c0 - i)) W := fun W => run_slOl W A0 no c0 i hi
      have hsl1 : ∀ W, (Instr.slice 70 (.slice A0 no c0) none (some (.int .i64 (i : Int))) none).run Tryz.prog W = .ok (.slice A0 i c0) W := fun W => run_slOh W A0 no c0 i (by
        obtain ⟨A1, c1, e, h9, -⟩ := own_form RZ.out.o
        rw [HV0.out.1, HV0.out.2] at e
        rw [HV0.out.2] at h9
        cases e
        omega)
      obtain ⟨Ad, hAd⟩ : ∃ Ad, cutA A0 c0 i 4 = Ad := ⟨_, rfl⟩
      rw [hAd] at hsl hrun2
      have cz4 : wz.cell? ⟨F, 4, none⟩ = some (.slice A0 no c0) := by rw [RZ.out.blk.cell 4, ← HV0.out.1]; rfl
      have cz4' : (wz.alloc (.cells #[] 79)).cell? ⟨F, 4, none⟩ = some (.slice A0 no c0) := by rw [Bk.cell (RZ.out.blk.alloc (.cells #[] 79)) 4, ← HV0.out.1]; rfl
      have d4 : w2i.drew.cell? ⟨F, 4, none⟩ = some (.slice A0 no c0) := by
        rw [show w2i.drew.cell? ⟨F, 4, none⟩ = w2i.cell? ⟨F, 4, none⟩ from rfl, kb2.cell 4, ← HV0.out.1]
        rfl
      have B2i : Bk w2i r 40 (spC s A n c) := f2.bk BZ.out fun e => e
      have d5 : (loadK 37 ⟨r, 0, none⟩).run Tryz.prog w2i.drew = .ok (trV s.tr) w2i.drew := ldTrB (o := 0) (a := s.hi) (b := s.lo) (show Bk w2i.drew r _ _ from B2i) rfl rfl
      have b3 : Below w2i.heap.size w2i (w2i.alloc (.cells (newC s.tr) 79)).drew := ((Below.refl _ w2i).alloc (Nat.le_refl _) _).drew
      have d43 : (w2i.alloc (.cells (newC s.tr) 79)).drew.cell? ⟨F, 4, none⟩ = some (.slice A0 no c0) := by
        rw [Bk.cell (kb2.below b3 kb2.lt) 4, ← HV0.out.1]
        rfl
      have d53 : (loadK 37 ⟨r, 0, none⟩).run Tryz.prog (w2i.alloc (.cells (newC s.tr) 79)).drew = .ok (trV s.tr) (w2i.alloc (.cells (newC s.tr) 79)).drew := ldTrB (o := 0) (a := s.hi) (b := s.lo) (B2i.below b3 B2i.lt) rfl rfl
      have B4 : Bk w4 r 40 (spC s A n c) := f4.bk BZ.out fun e => HRK.out r e rfl
      have d44 : w4.cell? ⟨F, 4, none⟩ = some (.slice A0 no c0) := by rw [kb4.cell 4, ← HV0.out.1]; rfl
      have d54 : (loadK 37 ⟨r, 0, none⟩).run Tryz.prog w4 = .ok (trV s.tr) w4 := ldTrB (o := 0) (a := s.hi) (b := s.lo) B4 rfl rfl
      have B5 : Bk w5i r 40 (spC s A n c) := f5.bk BZ.out fun e => HRK.out r e rfl
      have d45 : w5i.cell? ⟨F, 4, none⟩ = some (.slice A0 no c0) := by rw [kb5.cell 4, ← HV0.out.1]; rfl
      have d55 : (loadK 37 ⟨r, 0, none⟩).run Tryz.prog w5i = .ok (trV s.tr) w5i := ldTrB (o := 0) (a := s.hi) (b := s.lo) B5 rfl rfl
      have z45 := kb5.frozen 4
      have G6 := Lib.hid (And.intro hw6 (And.intro g6 R6))
      have F6 := Lib.hid (And.intro f5 kb5)
      have hrun4' : (appKG #[70, 70] 70 #[.slice A0 i c0, .slice (some ⟨w2i.heap.size, 0, none⟩) 1 1]).run Tryz.prog (w2i.alloc (.cells #[.int .u64 (s.tr.hi : Nat), .int .u64 (s.tr.lo : Nat), .slice none 0 0, .int .i64 0] 79)).drew = .ok (.slice A4 (i + 1) c4i) w4 := hrun4
      clear hrun4 hAd kb2 B2i b3 kb4 B4 kb5 B5 hw6 g6 R6 f2 f4 f5
      go_wp2_with fail
      clear cz4 cz4' hrun2
      refine wp_region_K (k := 16) (S := fun w' => w'.cell? ⟨F, 4, none⟩ = some (.slice A0 no c0) ∧ (loadK 37 ⟨r, 0, none⟩).run Tryz.prog w' = .ok (trV s.tr) w') (by kernel_rfl) ⟨d4, d5⟩ (fun hHeld => ?_)
      simp only [List.size_toArray, List.length_cons, List.length_nil, Nat.zero_add, Nat.reduceAdd]
      refine' wpAnyK_take (k := 16) (i := 0) ?o0 (by kernel_rfl) (by kernel_rfl) (by kernel_rfl) (by kernel_rfl) (by kernel_rfl) ?q0 hHeld ?hw0 ?hy0 ?_
      case o0 => (simp only [List.getElem?_toArray, List.getElem?_cons_succ, List.getElem?_cons_zero]; rfl)
      case q0 => exact fun _ _ _ h => h
      case hw0 => rfl
      case hy0 => (intro w hSw; (try unfold Ad15 at hSw); (try dsimp only at hSw); go_simp; try (with_reducible rfl))
      simp only [Act.put, List.setIfInBounds_toArray, List.set_cons_zero, List.set_cons_succ]
      refine' wpAnyK_take (k := 16) (i := 1) ?o1 (by kernel_rfl) (by kernel_rfl) (by kernel_rfl) (by kernel_rfl) (by kernel_rfl) ?q1 hHeld ?hw1 ?hy1 ?_
      case o1 => (simp only [List.getElem?_toArray, List.getElem?_cons_succ, List.getElem?_cons_zero]; rfl)
      case q1 => exact fun _ _ _ h => h
      case hw1 => rfl
      case hy1 => (intro w hSw; (try unfold Ad15 at hSw); (try dsimp only at hSw); go_simp; try (with_reducible rfl))
      simp only [Act.put, List.setIfInBounds_toArray, List.set_cons_zero, List.set_cons_succ]
      refine' wpAnyK_take (k := 16) (i := 2) ?o2 (by kernel_rfl) (by kernel_rfl) (by kernel_rfl) (by kernel_rfl) (by kernel_rfl) ?q2 hHeld ?hw2 ?hy2 ?_
      case o2 => (simp only [List.getElem?_toArray, List.getElem?_cons_succ, List.getElem?_cons_zero]; rfl)
      case q2 => exact fun _ _ _ h => h
      case hw2 => rfl
      case hy2 => (intro w hSw; (try unfold Ad15 at hSw); (try dsimp only at hSw); go_simp; try (with_reducible rfl))
      simp only [Act.put, List.setIfInBounds_toArray, List.set_cons_zero, List.set_cons_succ]
      refine' wpAnyK_take (k := 16) (i := 3) ?o3 (by kernel_rfl) (by kernel_rfl) (by kernel_rfl) (by kernel_rfl) (by kernel_rfl) ?q3 hHeld ?hw3 ?hy3 ?_
      case o3 => (simp only [List.getElem?_toArray, List.getElem?_cons_succ, List.getElem?_cons_zero]; rfl)
      case q3 => exact fun _ _ _ h => h
      case hw3 => rfl
      case hy3 => (intro w hSw; (try unfold Ad15 at hSw); (try dsimp only at hSw); go_simp; try (with_reducible rfl))
      simp only [Act.put, List.setIfInBounds_toArray, List.set_cons_zero, List.set_cons_succ]
      refine' wpAnyK_take (k := 16) (i := 4) ?o4 (by kernel_rfl) (by kernel_rfl) (by kernel_rfl) (by kernel_rfl) (by kernel_rfl) ?q4 hHeld ?hw4 ?hy4 ?_
      case o4 => (simp only [List.getElem?_toArray, List.getElem?_cons_succ, List.getElem?_cons_zero]; rfl)
      case q4 => exact fun _ _ _ h => h
      case hw4 => rfl
      case hy4 => (intro w hSw; (try unfold Ad15 at hSw); (try dsimp only at hSw); go_simp; try (with_reducible rfl))
      simp only [Act.put, List.setIfInBounds_toArray, List.set_cons_zero, List.set_cons_succ]
      refine' wpAnyK_take (k := 16) (i := 5) ?o5 (by kernel_rfl) (by kernel_rfl) (by kernel_rfl) (by kernel_rfl) (by kernel_rfl) ?q5 hHeld ?hw5 ?hy5 ?_
      case o5 => (simp only [List.getElem?_toArray, List.getElem?_cons_succ, List.getElem?_cons_zero]; rfl)
      case q5 => exact fun _ _ _ h => h
      case hw5 => rfl
      case hy5 => (intro w hSw; (try unfold Ad15 at hSw); (try dsimp only at hSw); go_simp; try (with_reducible rfl))
      simp only [Act.put, List.setIfInBounds_toArray, List.set_cons_zero, List.set_cons_succ]
      refine' wpAnyK_take (k := 16) (i := 6) ?o6 (by kernel_rfl) (by kernel_rfl) (by kernel_rfl) (by kernel_rfl) (by kernel_rfl) ?q6 hHeld ?hw6 ?hy6 ?_
      case o6 => (simp only [List.getElem?_toArray, List.getElem?_cons_succ, List.getElem?_cons_zero]; rfl)
      case q6 => exact fun _ _ _ h => h
      case hw6 => rfl
      case hy6 => (intro w hSw; (try unfold Ad15 at hSw); (try dsimp only at hSw); go_simp; try (with_reducible rfl))
      simp only [Act.put, List.setIfInBounds_toArray, List.set_cons_zero, List.set_cons_succ]
      refine' wpAnyK_take (k := 16) (i := 7) ?o7 (by kernel_rfl) (by kernel_rfl) (by kernel_rfl) (by kernel_rfl) (by kernel_rfl) ?q7 hHeld ?hw7 ?hy7 ?_
      case o7 => (simp only [List.getElem?_toArray, List.getElem?_cons_succ, List.getElem?_cons_zero]; rfl)
      case q7 => exact fun _ _ _ h => h
      case hw7 => rfl
      case hy7 => (intro w hSw; (try unfold Ad15 at hSw); (try dsimp only at hSw); go_simp; try (with_reducible rfl))
      simp only [Act.put, List.setIfInBounds_toArray, List.set_cons_zero, List.set_cons_succ]
      refine' wpAnyK_take (k := 16) (i := 8) ?o8 (by kernel_rfl) (by kernel_rfl) (by kernel_rfl) (by kernel_rfl) (by kernel_rfl) ?q8 hHeld ?hw8 ?hy8 ?_
      case o8 => (simp only [List.getElem?_toArray, List.getElem?_cons_succ, List.getElem?_cons_zero]; rfl)
      case q8 => exact fun _ _ _ h => h
      case hw8 => rfl
      case hy8 => (intro w hSw; (try unfold Ad15 at hSw); (try dsimp only at hSw); go_simp; try (with_reducible rfl))
      simp only [Act.put, List.setIfInBounds_toArray, List.set_cons_zero, List.set_cons_succ]
      refine' wpAnyK_take (k := 16) (i := 9) ?o9 (by kernel_rfl) (by kernel_rfl) (by kernel_rfl) (by kernel_rfl) (by kernel_rfl) ?q9 hHeld ?hw9 ?hy9 ?_
      case o9 => (simp only [List.getElem?_toArray, List.getElem?_cons_succ, List.getElem?_cons_zero]; rfl)
      case q9 => exact fun _ _ _ h => h
      case hw9 => rfl
      case hy9 => (intro w hSw; (try unfold Ad15 at hSw); (try dsimp only at hSw); go_simp; try (with_reducible rfl))
      simp only [Act.put, List.setIfInBounds_toArray, List.set_cons_zero, List.set_cons_succ]
      refine' wpAnyK_take (k := 16) (i := 12) ?o12 (by kernel_rfl) (by kernel_rfl) (by kernel_rfl) (by kernel_rfl) (by kernel_rfl) ?q12 hHeld ?hw12 ?hy12 ?_
      case o12 => (simp only [List.getElem?_toArray, List.getElem?_cons_succ, List.getElem?_cons_zero]; rfl)
      case q12 => exact fun _ _ _ h => h
      case hw12 => rfl
      case hy12 => (intro w hSw; (try unfold Ad15 at hSw); (try dsimp only at hSw); go_simp; try (with_reducible rfl))
      simp only [Act.put, List.setIfInBounds_toArray, List.set_cons_zero, List.set_cons_succ]
      refine' wpAnyK_step (k := 16) (i := 10) (by kernel_rfl) ?o10 ?hw10 ?_
      case o10 => (simp only [List.getElem?_toArray, List.getElem?_cons_succ, List.getElem?_cons_zero]; rfl)
      case hw10 => rfl
      intro KK hKK
      go_simp
      clear hHeld
      refine hKK.out _ _ ⟨d43, d53⟩ (fun hHeld => ?_)
      clear hKK KK
      try simp only [Act.put, List.setIfInBounds_toArray, List.set_cons_zero, List.set_cons_succ]
      refine' wpAnyK_step (k := 16) (i := 11) (by kernel_rfl) ?o11 ?hw11 ?_
      case o11 => (simp only [List.getElem?_toArray, List.getElem?_cons_succ, List.getElem?_cons_zero]; rfl)
      case hw11 => rfl
      intro KK hKK
      go_simp
      clear hHeld
      refine hKK.out _ _ ⟨d44, d54⟩ (fun hHeld => ?_)
      clear hKK KK
      try simp only [Act.put, List.setIfInBounds_toArray, List.set_cons_zero, List.set_cons_succ]
      refine' wpAnyK_step (k := 16) (i := 13) (by kernel_rfl) ?o13 ?hw13 ?_
      case o13 => (simp only [List.getElem?_toArray, List.getElem?_cons_succ, List.getElem?_cons_zero]; rfl)
      case hw13 => rfl
      intro KK hKK
      go_simp
      clear hHeld
      refine hKK.out _ _ ⟨d45, d55⟩ (fun hHeld => ?_)
      clear hKK KK
      try simp only [Act.put, List.setIfInBounds_toArray, List.set_cons_zero, List.set_cons_succ]
      refine' wpAnyK_step (k := 16) (i := 14) (by kernel_rfl) ?o14 ?hw14 ?_
      case o14 => (simp only [List.getElem?_toArray, List.getElem?_cons_succ, List.getElem?_cons_zero]; rfl)
      case hw14 => rfl
      intro KK hKK
      go_simp
      clear hHeld
      refine hKK.out _ _ ⟨d45, d55⟩ (fun hHeld => ?_)
      clear hKK KK
      try simp only [Act.put, List.setIfInBounds_toArray, List.set_cons_zero, List.set_cons_succ]
      refine' wpAnyK_step (k := 16) (i := 15) (by kernel_rfl) ?o15 ?hw15 ?_
      case o15 => (simp only [List.getElem?_toArray, List.getElem?_cons_succ, List.getElem?_cons_zero]; rfl)
      case hw15 => rfl
      intro KK hKK
      go_simp
      clear hHeld
      refine hKK.out _ _ ⟨d45, d55⟩ (fun hHeld => ?_)
      clear hKK KK
      try simp only [Act.put, List.setIfInBounds_toArray, List.set_cons_zero, List.set_cons_succ]
      refine wpAnyK_cut (by kernel_rfl) (by simp only [List.getElem?_toArray, List.getElem?_cons_succ, List.getElem?_cons_zero]; rfl) (by kernel_rfl) (by kernel_rfl) (by rfl) ?_
      clear hHeld
      go_simp
      clear d4 d5 d43 d53 d44 d54 d45 d55 z45 hrun4' hrun5 hsl hsl1
      obtain ⟨hw6, g6, R6⟩ := G6.out
      rw [← hw6]
      obtain ⟨wa, ewa⟩ : ∃ wa, w6 = wa := ⟨_, rfl⟩
      rw [ewa] at g6 R6 hw6
      rw [ewa]
      obtain ⟨m1, hm1⟩ : ∃ m1 : RM, { m with ov := Value.slice A5 (no + 1) c5, oe := m.oe.take i ++ newOE s.tr :: m.oe.drop i } = m1 := ⟨_, rfl⟩
      obtain ⟨G1, hG1⟩ : ∃ G1 : GSt, { G with op := G.op.take i ++ ⟨s.tr, [], 0⟩ :: G.op.drop i } = G1 := ⟨_, rfl⟩
      obtain ⟨e1, he1⟩ : ∃ e1, newOE s.tr = e1 := ⟨_, rfl⟩
      obtain ⟨n1, hn1⟩ : ∃ n1, no + 1 = n1 := ⟨_, rfl⟩
      rw [hm1, hG1] at R6
      have fs : FrK w5i wa (Kis F) := by rw [hw6]; exact FrK.set w5i F 4 _
      have RA : Hid (Rga base wa K1 Z F G1 m1) := Lib.hid R6
      have GA : Hid (Gro w wa K K1 Z Z) := Lib.hid (GZ.out.trans g6)
      have BA : Hid (Bk wa r 40 (spC s A n c)) := Lib.hid (fs.bk (F6.out.1.bk BZ.out fun e => HRK.out r e rfl) fun e => ne_of_type (F6.out.1.bk BZ.out fun e => HRK.out r e rfl) F6.out.2 (by decide) (show r = F from e))
      have TA : Hid (RbT wa wa.heap.size A s.tags) := Lib.hid (rdFr HA.out.1 GA.out.fr HAP.out)
      have hlt : (m.oe.take i).length = i := by rw [List.length_take, HV0.out.2]; omega
      have HE : Hid (m1.oe[i]? = some e1 ∧ m1.oe.length = n1 ∧ e1.t = s.tr ∧ e1.l.length ≤ 32) := Lib.hid ⟨by rw [← hm1, ← he1]; show (m.oe.take i ++ newOE s.tr :: m.oe.drop i)[i]? = _; rw [List.getElem?_append_right (by omega), hlt, Nat.sub_self]; rfl, by rw [← hm1, ← hn1]; show (m.oe.take i ++ newOE s.tr :: m.oe.drop i).length = _; rw [List.length_append, List.length_cons, hlt, List.length_drop, HV0.out.2]; omega, by rw [← he1]; rfl, by rw [← he1]; simp [newOE]⟩
      have hput := putIn_at (x := ⟨s.tr, G.lst s, G.now⟩) (l := G.op) (i := i) (fun j' z hj hz => HPOS.out j' z hj hz) (by have := H3.out.oN; have := HV0.out.2; omega) (fun z hz => HNE.out z hz)
      have hput0 := putIn_at (x := ⟨s.tr, [], 0⟩) (l := G.op) (i := i) (fun j' z hj hz => HPOS.out j' z hj hz) (by have := H3.out.oN; have := HV0.out.2; omega) (fun z hz => HNE.out z hz)
      have OS : Hid (OpS G1.op) := Lib.hid (by rw [← hG1]; show OpS (G.op.take i ++ ⟨s.tr, [], 0⟩ :: G.op.drop i); rw [← hput0]; exact OpS.putIn HOK.out.ops)
      have hlt2 : (G.op.take i).length = i := by rw [List.length_take]; have := H3.out.oN; have := HV0.out.2; omega
      have HPL : Hid (({ G1 with op := G1.op.set i ⟨e1.t, sps e1.l ++ [s], G1.now⟩ } : GSt) = { G with op := GSt.putIn ⟨s.tr, G.lst s, G.now⟩ G.op } ∧ sps e1.l ++ [s] = G.lst s) := by
        have h8 : sps e1.l ++ [s] = G.lst s := by
          unfold GSt.lst
          rw [get_none_at HOK.out.ops (fun j' z hj hz => HPOS.out j' z hj hz) (fun z hz => HNE.out z hz), ← he1]
          rfl
        refine Lib.hid ⟨?_, h8⟩
        rw [← hG1, h8, show e1.t = s.tr from HE.out.2.2.1, hput]
        show ({ G with op := (G.op.take i ++ ⟨s.tr, [], 0⟩ :: G.op.drop i).set i ⟨s.tr, G.lst s, G.now⟩ } : GSt) = _
        rw [List.set_append_right _ _ (by omega), hlt2, Nat.sub_self]
        rfl
      have HRK : Hid (∀ q, K1 q → q ≠ r) := Lib.hid fun q hq e => (g6.kn q hq).elim (fun e2 => HRK.out q e2 e) fun e2 => by have := BZ.out.lt; omega
      clear hput hput0 hlt hlt2 fs hw6 g6 R6 hn1 he1 hG1 hm1 ewa
      have hbn : ∃ b cc, m1.ov = .slice (some ⟨b, 0, none⟩) n1 cc := by
        obtain ⟨g, cap, hv3, -, -⟩ := RA.out.o.form (by have := HE.out.2.1; have := (List.getElem?_eq_some_iff.1 HE.out.1).1; omega)
        exact ⟨g, cap, by rw [hv3, HE.out.2.1]⟩
      obtain ⟨b, cc, hv1⟩ := hbn
      have hi1 : i < n1 := by have := HE.out.2.1; have := (List.getElem?_eq_some_iff.1 HE.out.1).1; omega
      have hi1' : (i : Int) < (n1 : Int) := by omega
      obtain ⟨lx, hlx⟩ : ∃ lx, e1.l.length = lx := ⟨_, rfl⟩
      have hRd := RA.out.below (Below.refl _ wa).drew
      have hBd : Bk wa.drew r 40 (spC s A n c) := BA.out
      have S0 := hRd.ad15 hv1 HE.out.1 hlx hBd
      have CP := Lib.hid (rCopy (c := c) s wa.drew (show RbT wa.drew wa.drew.heap.size A s.tags from TA.out) HN.out.1 (Nat.le_refl _) (by have := HN.out.2; omega))
      have HV1 := Lib.hid (And.intro hv1 hlx)
      have HRD := Lib.hid hRd
      have HBD := Lib.hid hBd
      clear hv1 hlx hRd hBd
      go_wp2_with fail
      refine wp_region_K (k := 19) (S := Ad15 F r b i lx n1 cc e1 s A n c) (by kernel_rfl) S0 (fun hHeld => ?_)
      simp only [List.size_toArray, List.length_cons, List.length_nil, Nat.zero_add, Nat.reduceAdd]
      refine' wpAnyK_take (k := 19) (i := 0) ?o0 (by kernel_rfl) (by kernel_rfl) (by kernel_rfl) (by kernel_rfl) (by kernel_rfl) ?q0 hHeld ?hw0 ?hy0 ?_
      case o0 => (simp only [List.getElem?_toArray, List.getElem?_cons_succ, List.getElem?_cons_zero]; rfl)
      case q0 => exact fun _ _ _ h => h
      case hw0 => rfl
      case hy0 => (intro w hSw; (try unfold Ad15 at hSw); (try dsimp only at hSw); go_simp; try (with_reducible rfl))
      simp only [Act.put, List.setIfInBounds_toArray, List.set_cons_zero, List.set_cons_succ]
      refine' wpAnyK_take (k := 19) (i := 1) ?o1 (by kernel_rfl) (by kernel_rfl) (by kernel_rfl) (by kernel_rfl) (by kernel_rfl) ?q1 hHeld ?hw1 ?hy1 ?_
      case o1 => (simp only [List.getElem?_toArray, List.getElem?_cons_succ, List.getElem?_cons_zero]; rfl)
      case q1 => exact fun _ _ _ h => h
      case hw1 => rfl
      case hy1 => (intro w hSw; (try unfold Ad15 at hSw); (try dsimp only at hSw); go_simp; try (with_reducible rfl))
      simp only [Act.put, List.setIfInBounds_toArray, List.set_cons_zero, List.set_cons_succ]
      refine' wpAnyK_take (k := 19) (i := 2) ?o2 (by kernel_rfl) (by kernel_rfl) (by kernel_rfl) (by kernel_rfl) (by kernel_rfl) ?q2 hHeld ?hw2 ?hy2 ?_
      case o2 => (simp only [List.getElem?_toArray, List.getElem?_cons_succ, List.getElem?_cons_zero]; rfl)
      case q2 => exact fun _ _ _ h => h
      case hw2 => rfl
      case hy2 => (intro w hSw; (try unfold Ad15 at hSw); (try dsimp only at hSw); go_simp; try (with_reducible rfl))
      simp only [Act.put, List.setIfInBounds_toArray, List.set_cons_zero, List.set_cons_succ]
      refine' wpAnyK_take (k := 19) (i := 3) ?o3 (by kernel_rfl) (by kernel_rfl) (by kernel_rfl) (by kernel_rfl) (by kernel_rfl) ?q3 hHeld ?hw3 ?hy3 ?_
      case o3 => (simp only [List.getElem?_toArray, List.getElem?_cons_succ, List.getElem?_cons_zero]; rfl)
      case q3 => exact fun _ _ _ h => h
      case hw3 => rfl
      case hy3 => (intro w hSw; (try unfold Ad15 at hSw); (try dsimp only at hSw); go_simp; try (with_reducible rfl))
      simp only [Act.put, List.setIfInBounds_toArray, List.set_cons_zero, List.set_cons_succ]
      refine' wpAnyK_take (k := 19) (i := 4) ?o4 (by kernel_rfl) (by kernel_rfl) (by kernel_rfl) (by kernel_rfl) (by kernel_rfl) ?q4 hHeld ?hw4 ?hy4 ?_
      case o4 => (simp only [List.getElem?_toArray, List.getElem?_cons_succ, List.getElem?_cons_zero]; rfl)
      case q4 => exact fun _ _ _ h => h
      case hw4 => rfl
      case hy4 => (intro w hSw; (try unfold Ad15 at hSw); (try dsimp only at hSw); go_simp; try (with_reducible rfl))
      simp only [Act.put, List.setIfInBounds_toArray, List.set_cons_zero, List.set_cons_succ]
      refine' wpAnyK_take (k := 19) (i := 5) ?o5 (by kernel_rfl) (by kernel_rfl) (by kernel_rfl) (by kernel_rfl) (by kernel_rfl) ?q5 hHeld ?hw5 ?hy5 ?_
      case o5 => (simp only [List.getElem?_toArray, List.getElem?_cons_succ, List.getElem?_cons_zero]; rfl)
      case q5 => exact fun _ _ _ h => h
      case hw5 => rfl
      case hy5 => (intro w hSw; (try unfold Ad15 at hSw); (try dsimp only at hSw); go_simp; try (with_reducible rfl))
      simp only [Act.put, List.setIfInBounds_toArray, List.set_cons_zero, List.set_cons_succ]
      refine' wpAnyK_take (k := 19) (i := 6) ?o6 (by kernel_rfl) (by kernel_rfl) (by kernel_rfl) (by kernel_rfl) (by kernel_rfl) ?q6 hHeld ?hw6 ?hy6 ?_
      case o6 => (simp only [List.getElem?_toArray, List.getElem?_cons_succ, List.getElem?_cons_zero]; rfl)
      case q6 => exact fun _ _ _ h => h
      case hw6 => rfl
      case hy6 => (intro w hSw; (try unfold Ad15 at hSw); (try dsimp only at hSw); go_simp; try (with_reducible rfl))
      simp only [Act.put, List.setIfInBounds_toArray, List.set_cons_zero, List.set_cons_succ]
      refine' wpAnyK_take (k := 19) (i := 7) ?o7 (by kernel_rfl) (by kernel_rfl) (by kernel_rfl) (by kernel_rfl) (by kernel_rfl) ?q7 hHeld ?hw7 ?hy7 ?_
      case o7 => (simp only [List.getElem?_toArray, List.getElem?_cons_succ, List.getElem?_cons_zero]; rfl)
      case q7 => exact fun _ _ _ h => h
      case hw7 => rfl
      case hy7 => (intro w hSw; (try unfold Ad15 at hSw); (try dsimp only at hSw); go_simp; try (with_reducible rfl))
      simp only [Act.put, List.setIfInBounds_toArray, List.set_cons_zero, List.set_cons_succ]
      refine' wpAnyK_take (k := 19) (i := 8) ?o8 (by kernel_rfl) (by kernel_rfl) (by kernel_rfl) (by kernel_rfl) (by kernel_rfl) ?q8 hHeld ?hw8 ?hy8 ?_
      case o8 => (simp only [List.getElem?_toArray, List.getElem?_cons_succ, List.getElem?_cons_zero]; rfl)
      case q8 => exact fun _ _ _ h => h
      case hw8 => rfl
      case hy8 => (intro w hSw; (try unfold Ad15 at hSw); (try dsimp only at hSw); go_simp; try (with_reducible rfl))
      simp only [Act.put, List.setIfInBounds_toArray, List.set_cons_zero, List.set_cons_succ]
      refine' wpAnyK_take (k := 19) (i := 9) ?o9 (by kernel_rfl) (by kernel_rfl) (by kernel_rfl) (by kernel_rfl) (by kernel_rfl) ?q9 hHeld ?hw9 ?hy9 ?_
      case o9 => (simp only [List.getElem?_toArray, List.getElem?_cons_succ, List.getElem?_cons_zero]; rfl)
      case q9 => exact fun _ _ _ h => h
      case hw9 => rfl
      case hy9 => (intro w hSw; (try unfold Ad15 at hSw); (try dsimp only at hSw); go_simp; try (with_reducible rfl))
      simp only [Act.put, List.setIfInBounds_toArray, List.set_cons_zero, List.set_cons_succ]
      refine' wpAnyK_take (k := 19) (i := 10) ?o10 (by kernel_rfl) (by kernel_rfl) (by kernel_rfl) (by kernel_rfl) (by kernel_rfl) ?q10 hHeld ?hw10 ?hy10 ?_
      case o10 => (simp only [List.getElem?_toArray, List.getElem?_cons_succ, List.getElem?_cons_zero]; rfl)
      case q10 => exact fun _ _ _ h => h
      case hw10 => rfl
      case hy10 => (intro w hSw; (try unfold Ad15 at hSw); (try dsimp only at hSw); go_simp; try (with_reducible rfl))
      simp only [Act.put, List.setIfInBounds_toArray, List.set_cons_zero, List.set_cons_succ]
      refine' wpAnyK_take (k := 19) (i := 11) ?o11 (by kernel_rfl) (by kernel_rfl) (by kernel_rfl) (by kernel_rfl) (by kernel_rfl) ?q11 hHeld ?hw11 ?hy11 ?_
      case o11 => (simp only [List.getElem?_toArray, List.getElem?_cons_succ, List.getElem?_cons_zero]; rfl)
      case q11 => exact fun _ _ _ h => h
      case hw11 => rfl
      case hy11 => (intro w hSw; (try unfold Ad15 at hSw); (try dsimp only at hSw); go_simp; try (with_reducible rfl))
      simp only [Act.put, List.setIfInBounds_toArray, List.set_cons_zero, List.set_cons_succ]
      refine' wpAnyK_take (k := 19) (i := 12) ?o12 (by kernel_rfl) (by kernel_rfl) (by kernel_rfl) (by kernel_rfl) (by kernel_rfl) ?q12 hHeld ?hw12 ?hy12 ?_
      case o12 => (simp only [List.getElem?_toArray, List.getElem?_cons_succ, List.getElem?_cons_zero]; rfl)
      case q12 => exact fun _ _ _ h => h
      case hw12 => rfl
      case hy12 => (intro w hSw; (try unfold Ad15 at hSw); (try dsimp only at hSw); go_simp; try (with_reducible rfl))
      simp only [Act.put, List.setIfInBounds_toArray, List.set_cons_zero, List.set_cons_succ]
      refine' wpAnyK_take (k := 19) (i := 13) ?o13 (by kernel_rfl) (by kernel_rfl) (by kernel_rfl) (by kernel_rfl) (by kernel_rfl) ?q13 hHeld ?hw13 ?hy13 ?_
      case o13 => (simp only [List.getElem?_toArray, List.getElem?_cons_succ, List.getElem?_cons_zero]; rfl)
      case q13 => exact fun _ _ _ h => h
      case hw13 => rfl
      case hy13 => (intro w hSw; (try unfold Ad15 at hSw); (try dsimp only at hSw); go_simp; try (with_reducible rfl))
      simp only [Act.put, List.setIfInBounds_toArray, List.set_cons_zero, List.set_cons_succ]
      refine' wpAnyK_step (k := 19) (i := 14) (by kernel_rfl) ?o14 ?hw14 ?_
      case o14 => (simp only [List.getElem?_toArray, List.getElem?_cons_succ, List.getElem?_cons_zero]; rfl)
      case hw14 => rfl
      intro KK hKK
      go_simp
      refine CP.out.mono ?_
      rintro e w5 ⟨A', c', rfl, hr5, hb5, hc5, hlo5, -⟩
      obtain ⟨A7, c7, w7, hrun7, f7, k7, ho7, k8, ho8, K9, Z9, g9, R9⟩ := HRD.out.setJ (c' := c') OS.out HV1.out.1 HE.out.2.1 HE.out.1 HV1.out.2 (by have := HE.out.2.2.2; have := HV1.out.2; omega) hb5 hr5 HN.out.1 (by have := HN.out.2; omega) hlo5
      have hR5 := HRD.out.below hb5
      have hB5 := HBD.out.below hb5 HBD.out.lt
      have J5 := hR5.ad15 HV1.out.1 HE.out.1 HV1.out.2 hB5
      have b6 : Below w5.heap.size w5 (w5.alloc (.cells (spC s A' n c') 40)) := (Below.refl _ w5).alloc (Nat.le_refl _) _
      have hB6 := hB5.below b6 hB5.lt
      have J6 := (hR5.below b6).ad15 HV1.out.1 HE.out.1 HV1.out.2 hB6
      have hB7 : Bk w7 r 40 (spC s A n c) := f7.bk HBD.out (fun e2 => by
        exact HRK.out r (HRD.out.kR e1 (List.mem_of_getElem? HE.out.1) r e2) rfl)
      have J7 : Ad15 F r b i lx n1 cc e1 s A n c w7 := ad15_of k7 ho7 HV1.out.1 HE.out.2.1 HE.out.1 HV1.out.2 hB7
      have hv1 := HV1.out.1
      have hn1 := HE.out.2.1
      rw [hv1, hn1] at ho7 ho8
      have q7 : w7.cell? ⟨b, i * 4 + 2, none⟩ = some (.slice e1.A lx e1.c) := J7.2.1
      have z7 := ho7.frozenAt (i * 4 + 2)
      have F9 := Lib.hid (And.intro g9 R9)
      have K8 := Lib.hid k8
      have O8 := Lib.hid ho8
      clear hr5 hb5 hc5 hlo5 f7 k7 ho7 k8 ho8 g9 R9 hR5 hB5 b6 hB6 hB7 hv1 hn1
      go_wp2_with fail
      clear hHeld
      refine hKK.out _ _ J5 (fun hHeld => ?_)
      clear hKK KK
      try simp only [Act.put, List.setIfInBounds_toArray, List.set_cons_zero, List.set_cons_succ]
      refine' wpAnyK_step (k := 19) (i := 15) (by kernel_rfl) ?o15 ?hw15 ?_
      case o15 => (simp only [List.getElem?_toArray, List.getElem?_cons_succ, List.getElem?_cons_zero]; rfl)
      case hw15 => rfl
      intro KK hKK
      go_simp
      clear hHeld
      refine hKK.out _ _ J6 (fun hHeld => ?_)
      clear hKK KK
      try simp only [Act.put, List.setIfInBounds_toArray, List.set_cons_zero, List.set_cons_succ]
      refine' wpAnyK_step (k := 19) (i := 16) (by kernel_rfl) ?o16 ?hw16 ?_
      case o16 => (simp only [List.getElem?_toArray, List.getElem?_cons_succ, List.getElem?_cons_zero]; rfl)
      case hw16 => rfl
      intro KK hKK
      go_simp
      clear hHeld
      refine hKK.out _ _ J7 (fun hHeld => ?_)
      clear hKK KK
      try simp only [Act.put, List.setIfInBounds_toArray, List.set_cons_zero, List.set_cons_succ]
      refine' wpAnyK_step (k := 19) (i := 17) (by kernel_rfl) ?o17 ?hw17 ?_
      case o17 => (simp only [List.getElem?_toArray, List.getElem?_cons_succ, List.getElem?_cons_zero]; rfl)
      case hw17 => rfl
      intro KK hKK
      go_simp
      clear hHeld
      refine hKK.out _ _ J7 (fun hHeld => ?_)
      clear hKK KK
      try simp only [Act.put, List.setIfInBounds_toArray, List.set_cons_zero, List.set_cons_succ]
      refine' wpAnyK_step (k := 19) (i := 18) (by kernel_rfl) ?o18 ?hw18 ?_
      case o18 => (simp only [List.getElem?_toArray, List.getElem?_cons_succ, List.getElem?_cons_zero]; rfl)
      case hw18 => rfl
      intro KK hKK
      go_simp
      clear hHeld
      refine hKK.out _ _ J7 (fun hHeld => ?_)
      clear hKK KK
      try simp only [Act.put, List.setIfInBounds_toArray, List.set_cons_zero, List.set_cons_succ]
      refine wpAnyK_cut (by kernel_rfl) (by simp only [List.getElem?_toArray, List.getElem?_cons_succ, List.getElem?_cons_zero]; rfl) (by kernel_rfl) (by kernel_rfl) (by rfl) ?_
      clear hHeld
      go_simp
      clear hrun7 J5 J6 J7 q7 z7 CP S0
      obtain ⟨w8, e8⟩ : ∃ w8, w7.setCell ⟨b, i * 4 + 2, none⟩ (.slice A7 (lx + 1) c7) = w8 := ⟨_, rfl⟩
      rw [e8] at F9 K8 O8 ⊢
      clear e8
      have q8 : ∃ u, w8.cell? ⟨b, i * 4 + 3, none⟩ = some u := by
        rw [O8.out.cellAt (i * 4 + 3) (by omega)]
        exact ⟨_, List.getElem?_eq_getElem (by rw [flatR_length oeC_length, List.length_set]; have := HE.out.2.1; omega)⟩
      obtain ⟨u8, q8⟩ := q8
      have z8 := O8.out.frozenAt (i * 4 + 3)
      have c48 : w8.drew.cell? ⟨F, 4, none⟩ = some (.slice (some ⟨b, 0, none⟩) n1 cc) := by
        rw [show w8.drew.cell? ⟨F, 4, none⟩ = w8.cell? ⟨F, 4, none⟩ from rfl, K8.out.cell 4, ← HV1.out.1]
        rfl
      have c38 : w8.drew.cell? ⟨F, 3, none⟩ = some (.int .i64 G1.now) := (K8.out.cell 3).trans rfl
      go_wp2_with fail
      refine wp_region_K (k := 11) (S := fun w' => w'.cell? ⟨F, 4, none⟩ = some (.slice (some ⟨b, 0, none⟩) n1 cc) ∧ w'.cell? ⟨F, 3, none⟩ = some (.int .i64 G1.now)) (by kernel_rfl) ⟨c48, c38⟩ (fun hHeld => ?_)
      simp only [List.size_toArray, List.length_cons, List.length_nil, Nat.zero_add, Nat.reduceAdd]
      refine' wpAnyK_take (k := 11) (i := 0) ?o0 (by kernel_rfl) (by kernel_rfl) (by kernel_rfl) (by kernel_rfl) (by kernel_rfl) ?q0 hHeld ?hw0 ?hy0 ?_
      case o0 => (simp only [List.getElem?_toArray, List.getElem?_cons_succ, List.getElem?_cons_zero]; rfl)
      case q0 => exact fun _ _ _ h => h
      case hw0 => rfl
      case hy0 => (intro w hSw; (try unfold Ad15 at hSw); (try dsimp only at hSw); go_simp; try (with_reducible rfl))
      simp only [Act.put, List.setIfInBounds_toArray, List.set_cons_zero, List.set_cons_succ]
      refine' wpAnyK_take (k := 11) (i := 1) ?o1 (by kernel_rfl) (by kernel_rfl) (by kernel_rfl) (by kernel_rfl) (by kernel_rfl) ?q1 hHeld ?hw1 ?hy1 ?_
      case o1 => (simp only [List.getElem?_toArray, List.getElem?_cons_succ, List.getElem?_cons_zero]; rfl)
      case q1 => exact fun _ _ _ h => h
      case hw1 => rfl
      case hy1 => (intro w hSw; (try unfold Ad15 at hSw); (try dsimp only at hSw); go_simp; try (with_reducible rfl))
      simp only [Act.put, List.setIfInBounds_toArray, List.set_cons_zero, List.set_cons_succ]
      refine' wpAnyK_take (k := 11) (i := 2) ?o2 (by kernel_rfl) (by kernel_rfl) (by kernel_rfl) (by kernel_rfl) (by kernel_rfl) ?q2 hHeld ?hw2 ?hy2 ?_
      case o2 => (simp only [List.getElem?_toArray, List.getElem?_cons_succ, List.getElem?_cons_zero]; rfl)
      case q2 => exact fun _ _ _ h => h
      case hw2 => rfl
      case hy2 => (intro w hSw; (try unfold Ad15 at hSw); (try dsimp only at hSw); go_simp; try (with_reducible rfl))
      simp only [Act.put, List.setIfInBounds_toArray, List.set_cons_zero, List.set_cons_succ]
      refine' wpAnyK_take (k := 11) (i := 3) ?o3 (by kernel_rfl) (by kernel_rfl) (by kernel_rfl) (by kernel_rfl) (by kernel_rfl) ?q3 hHeld ?hw3 ?hy3 ?_
      case o3 => (simp only [List.getElem?_toArray, List.getElem?_cons_succ, List.getElem?_cons_zero]; rfl)
      case q3 => exact fun _ _ _ h => h
      case hw3 => rfl
      case hy3 => (intro w hSw; (try unfold Ad15 at hSw); (try dsimp only at hSw); go_simp; try (with_reducible rfl))
      simp only [Act.put, List.setIfInBounds_toArray, List.set_cons_zero, List.set_cons_succ]
      refine' wpAnyK_take (k := 11) (i := 4) ?o4 (by kernel_rfl) (by kernel_rfl) (by kernel_rfl) (by kernel_rfl) (by kernel_rfl) ?q4 hHeld ?hw4 ?hy4 ?_
      case o4 => (simp only [List.getElem?_toArray, List.getElem?_cons_succ, List.getElem?_cons_zero]; rfl)
      case q4 => exact fun _ _ _ h => h
      case hw4 => rfl
      case hy4 => (intro w hSw; (try unfold Ad15 at hSw); (try dsimp only at hSw); go_simp; try (with_reducible rfl))
      simp only [Act.put, List.setIfInBounds_toArray, List.set_cons_zero, List.set_cons_succ]
      refine' wpAnyK_take (k := 11) (i := 5) ?o5 (by kernel_rfl) (by kernel_rfl) (by kernel_rfl) (by kernel_rfl) (by kernel_rfl) ?q5 hHeld ?hw5 ?hy5 ?_
      case o5 => (simp only [List.getElem?_toArray, List.getElem?_cons_succ, List.getElem?_cons_zero]; rfl)
      case q5 => exact fun _ _ _ h => h
      case hw5 => rfl
      case hy5 => (intro w hSw; (try unfold Ad15 at hSw); (try dsimp only at hSw); go_simp; try (with_reducible rfl))
      simp only [Act.put, List.setIfInBounds_toArray, List.set_cons_zero, List.set_cons_succ]
      refine' wpAnyK_take (k := 11) (i := 6) ?o6 (by kernel_rfl) (by kernel_rfl) (by kernel_rfl) (by kernel_rfl) (by kernel_rfl) ?q6 hHeld ?hw6 ?hy6 ?_
      case o6 => (simp only [List.getElem?_toArray, List.getElem?_cons_succ, List.getElem?_cons_zero]; rfl)
      case q6 => exact fun _ _ _ h => h
      case hw6 => rfl
      case hy6 => (intro w hSw; (try unfold Ad15 at hSw); (try dsimp only at hSw); go_simp; try (with_reducible rfl))
      simp only [Act.put, List.setIfInBounds_toArray, List.set_cons_zero, List.set_cons_succ]
      refine' wpAnyK_take (k := 11) (i := 7) ?o7 (by kernel_rfl) (by kernel_rfl) (by kernel_rfl) (by kernel_rfl) (by kernel_rfl) ?q7 hHeld ?hw7 ?hy7 ?_
      case o7 => (simp only [List.getElem?_toArray, List.getElem?_cons_succ, List.getElem?_cons_zero]; rfl)
      case q7 => exact fun _ _ _ h => h
      case hw7 => rfl
      case hy7 => (intro w hSw; (try unfold Ad15 at hSw); (try dsimp only at hSw); go_simp; try (with_reducible rfl))
      simp only [Act.put, List.setIfInBounds_toArray, List.set_cons_zero, List.set_cons_succ]
      refine' wpAnyK_take (k := 11) (i := 8) ?o8 (by kernel_rfl) (by kernel_rfl) (by kernel_rfl) (by kernel_rfl) (by kernel_rfl) ?q8 hHeld ?hw8 ?hy8 ?_
      case o8 => (simp only [List.getElem?_toArray, List.getElem?_cons_succ, List.getElem?_cons_zero]; rfl)
      case q8 => exact fun _ _ _ h => h
      case hw8 => rfl
      case hy8 => (intro w hSw; (try unfold Ad15 at hSw); (try dsimp only at hSw); go_simp; try (with_reducible rfl))
      simp only [Act.put, List.setIfInBounds_toArray, List.set_cons_zero, List.set_cons_succ]
      refine' wpAnyK_step (k := 11) (i := 9) (by kernel_rfl) ?o9 ?hw9 ?_
      case o9 => (simp only [List.getElem?_toArray, List.getElem?_cons_succ, List.getElem?_cons_zero]; rfl)
      case hw9 => rfl
      intro KK hKK
      go_simp
      clear hHeld
      refine hKK.out _ _ ⟨c48, c38⟩ (fun hHeld => ?_)
      clear hKK KK
      try simp only [Act.put, List.setIfInBounds_toArray, List.set_cons_zero, List.set_cons_succ]
      refine' wpAnyK_step (k := 11) (i := 10) (by kernel_rfl) ?o10 ?hw10 ?_
      case o10 => (simp only [List.getElem?_toArray, List.getElem?_cons_succ, List.getElem?_cons_zero]; rfl)
      case hw10 => rfl
      intro KK hKK
      go_simp
      clear hHeld
      refine hKK.out _ _ ⟨c48, c38⟩ (fun hHeld => ?_)
      clear hKK KK
      try simp only [Act.put, List.setIfInBounds_toArray, List.set_cons_zero, List.set_cons_succ]
      refine wpAnyK_cut (by kernel_rfl) (by simp only [List.getElem?_toArray, List.getElem?_cons_succ, List.getElem?_cons_zero]; rfl) (by kernel_rfl) (by kernel_rfl) (by rfl) ?_
      clear hHeld
      go_simp
      clear c48 c38 q8 z8 K8 O8
      obtain ⟨w9, e9⟩ : ∃ w9, w8.setCell ⟨b, i * 4 + 3, none⟩ (.int .i64 G1.now) = w9 := ⟨_, rfl⟩
      have e9' : w8.drew.setCell ⟨b, i * 4 + 3, none⟩ (.int .i64 G1.now) = w9.drew := by rw [← e9]; rfl
      rw [e9] at F9
      try rw [e9]
      try rw [e9']
      clear e9 e9'
      obtain ⟨m9, hm9⟩ : ∃ m9 : RM, { m1 with oe := m1.oe.set i (nxE e1 s A' n c' A7 c7 G1.now) } = m9 := ⟨_, rfl⟩
      have hi9 : m9.oe[i]? = some (nxE e1 s A' n c' A7 c7 G1.now) := by
        rw [← hm9]
        exact List.getElem?_set_self (by have := HE.out.2.1; omega)
      have hv9 : m9.ov = .slice (some ⟨b, 0, none⟩) n1 cc := by rw [← hm9]; exact HV1.out.1
      have hl9 : (nxE e1 s A' n c' A7 c7 G1.now).l.length = lx + 1 := by
        show (e1.l ++ [_]).length = _
        rw [List.length_append, HV1.out.2]
        rfl
      obtain ⟨g9, R9⟩ := F9.out
      rw [hm9, HPL.out.1] at R9
      have R10 := R9
      have HG10 := Lib.hid ((GA.out.trans (Gro.refl (FrK.refl wa K1).drew)).trans g9)
      have c410 : w9.cell? ⟨F, 4, none⟩ = some (.slice (some ⟨b, 0, none⟩) n1 cc) := by rw [R9.blk.cell 4, ← hv9]; rfl
      have c210 : w9.cell? ⟨F, 2, none⟩ = some (.int .i64 G.cap) := (R9.blk.cell 2).trans rfl
      have x10 : w9.cell? ⟨b, i * 4 + 2, none⟩ = some (.slice A7 (lx + 1) c7) := by
        have h3 := R9.o
        have h4 : m9.oe.length = n1 := by rw [← hm9]; exact (List.length_set ..).trans HE.out.2.1
        rw [hv9, h4] at h3
        rw [h3.cellAt (i * 4 + 2) (by omega), flatR_get oeC_length hi9 2 (by omega), ← hl9]
        rfl
      have hll : (G.lst s).length = lx + 1 := by rw [← HPL.out.2, List.length_append, sps_length, HV1.out.2]; rfl
      have hadd := GSt.add_eq G s
      rw [if_neg (by rw [HQ.out]; decide), if_neg HNIN.out, hll] at hadd
      have HR10 := Lib.hid R10
      have HI9 := Lib.hid (And.intro hi9 (And.intro hl9 hm9))
      have HAD := Lib.hid hadd
      clear g9 R9 R10 hi9 hv9 hl9 hm9 hll hadd F9
      by_cases hfull : G.cap ≤ ((lx + 1 : Nat) : Int)
      · have hfull' : G.cap ≤ (lx : Int) + 1 := by simpa using hfull
        have hfd : decide (G.cap ≤ (lx : Int) + 1) = true := by simpa using hfull
        have hfd2 : decide ((lx : Int) + 1 ≥ G.cap) = true := by simpa using hfull
        have hadd := HAD.out
        rw [if_pos hfull] at hadd
        have HAD2 := Lib.hid hadd
        clear hadd hfull
        go_wp2_with fail
        go_quiet (fail)
        have hR11 := HR10.out.below (below_drewN (Below.refl _ w9) (1 + nq))
        have CC := Lib.hid (rgClose hR11 (OpS.putIn HOK.out.ops) HI9.out.1 (by rw [hR11.ceN]; have := HOK.out.num; show G.cl.length ≤ _; omega) (by show G.all.length ≤ _; have := HALL.out; omega) (by rw [hR11.oN]; have := putIn_length ⟨s.tr, G.lst s, G.now⟩ G.op; have := HOK.out.num; show (GSt.putIn _ G.op).length ≤ _; omega) (by rw [HI9.out.2.1]; have := HE.out.2.2.2; have := HV1.out.2; omega) (fun x hx => by
          have h3 := (hR11.el _ (List.mem_of_getElem? HI9.out.1) x hx).ok.len
          have h4 : x.s ∈ G.lst s := by
            rw [← HPL.out.2]
            have h5 : x.s ∈ (nxE e1 s A' n c' A7 c7 G1.now).l.map (·.s) := List.mem_map.2 ⟨x, hx, rfl⟩
            have h6 : (nxE e1 s A' n c' A7 c7 G1.now).l.map (·.s) = sps e1.l ++ [s] := by simp [nxE, sps]
            rw [h6] at h5
            exact h5
          have h7 := chk_tags ((HOK.out.lst HQ.out).2.1 x.s h4).1
          omega))
        clear c410 c210 x10
        go_wp2_with fail
        refine CC.out.mono ?_
        rintro e w12 ⟨rfl, K12, Z12, m12, g12, R12⟩
        have HF := Lib.hid (And.intro g12 R12)
        clear g12 R12 CC hR11
        go_wp2_with fail
        go_ret2
        unfold RAddP
        rw [HAD2.out]
        refine ⟨rfl, K12, Z12, m12, (HG10.out.trans (Gro.refl (FrK.of_below (below_drewN (Below.refl _ w9) (1 + nq)) (Nat.le_refl _) K9))).trans HF.out.1, ?_⟩
        have h8 : ({ G with op := GSt.putIn ⟨s.tr, G.lst s, G.now⟩ G.op } : GSt).close (nxE e1 s A' n c' A7 c7 G1.now).t (sps (nxE e1 s A' n c' A7 c7 G1.now).l) = G.close s.tr (G.lst s) := by
          have h9 : (nxE e1 s A' n c' A7 c7 G1.now).t = s.tr := HE.out.2.2.1
          have h10 : sps (nxE e1 s A' n c' A7 c7 G1.now).l = G.lst s := by
            rw [← HPL.out.2]
            simp [nxE, sps]
          rw [h9, h10]
          unfold GSt.close
          simp only
          rw [delOf_putIn ⟨s.tr, G.lst s, G.now⟩ G.op]
        rw [← h8]
        exact HF.out.2
      · have hfull' : ¬G.cap ≤ (lx : Int) + 1 := by simpa using hfull
        have hfd : decide (G.cap ≤ (lx : Int) + 1) = false := by simpa using hfull
        have hfd2 : decide ((lx : Int) + 1 ≥ G.cap) = false := by simpa using hfull
        have hadd := HAD.out
        rw [if_neg hfull] at hadd
        have HAD2 := Lib.hid hadd
        clear hadd hfull
        go_wp2_with fail
        go_quiet (fail)
        clear c410 c210 x10
        go_wp2_with fail
        go_ret2
        unfold RAddP
        rw [HAD2.out]
        exact ⟨rfl, K9, Z9, m9, HG10.out.trans (Gro.refl (FrK.of_below (below_drewN (Below.refl _ w9).drew nq) (Nat.le_refl _) K9)), HR10.out.below (below_drewN (Below.refl _ w9).drew nq)⟩
    have hlt' : (i : Int) < (no : Int) := by omega
    obtain ⟨y, hy⟩ : ∃ y, m.oe[i]? = some y := ⟨_, List.getElem?_eq_getElem (by rw [HV0.out.2]; exact hlt)⟩
    have ho := hd.o
    rw [HV0.out.2, HV0.out.1] at ho
    obtain ⟨b, cap, hvb, -, -⟩ := ho.form (by omega)
    injection hvb with hA0 _ hc0
    subst hA0
    clear hc0 ho
    have CT : Hid (∀ x, Below w3.heap.size w3 x → x.cell? ⟨F, 4, none⟩ = some (.slice (some ⟨b, 0, none⟩) no c0) ∧ (loadK 37 ⟨b, i * 4, none⟩).run Tryz.prog x = .ok (trV y.t) x ∧ (loadK 37 ⟨r, 0, none⟩).run Tryz.prog x = .ok (trV s.tr) x) := Lib.hid fun x hx => by
      have h5 := H3.out.below hx
      have h6 := h5.o
      rw [HV0.out.2, HV0.out.1] at h6
      refine ⟨by rw [h5.blk.cell 4, ← HV0.out.1]; rfl, ?_, ldTrB (o := 0) (a := s.hi) (b := s.lo) (B3.out.below hx B3.out.lt) rfl rfl⟩
      exact run_loadVar_cells x _ _ ⟨b, i * 4, none⟩ [.int .u64 (y.t.hi : Nat), .int .u64 (y.t.lo : Nat)] Tryz.underlying37 rfl (by rfl) (fun j u hj => by
        have hj2 : j < 2 := (List.getElem?_eq_some_iff.1 hj).1
        rw [Addr.add_lit, h6.cellAt (i * 4 + j) (by omega), flatR_get oeC_length hy j (by omega), ← hj]
        match j, hj2 with
        | 0, _ => rfl
        | 1, _ => rfl)
    have CL := Lib.hid (rgLess y.t s.tr wr.drew)
    obtain ⟨ql, hql⟩ : ∃ ql, Tr.lt y.t s.tr = ql := ⟨_, rfl⟩
    rw [hql] at CL
    have hopi := H3.out.at hy
    have HY := Lib.hid (And.intro hy (And.intro hql hopi))
    clear hy hql hopi hd bd
    go_wp2_with fail
    go_region_held3 (fun w' => w'.cell? ⟨F, 4, none⟩ = some (.slice (some ⟨b, 0, none⟩) no c0) ∧ (loadK 37 ⟨b, i * 4, none⟩).run Tryz.prog w' = .ok (trV y.t) w' ∧ (loadK 37 ⟨r, 0, none⟩).run Tryz.prog w' = .ok (trV s.tr) w')
      (exact CT.out _ (by assumption))
      (first
        | (go_at_call 44
           refine CL.out.mono ?_
           rintro e w5 ⟨rfl, hb5⟩
           have hb35 := hbd.trans (hb5.mono hbd.size))
        | fail)
    have HB5 := Lib.hid hb35
    clear hb35 hbd CL c4
    cases ql with
    | true =>
      have HN2 : Hid (∀ j' y, j' < i + 1 → G.op[j']? = some y → Tr.lt y.t s.tr = true) := Lib.hid fun j' z hj hz => by
        by_cases h6 : j' < i
        · exact HPOS.out j' z h6 hz
        · have : j' = i := by omega
          subst this
          rw [HY.out.2.2] at hz
          cases hz
          exact HY.out.2.1
      go_wp2_with fail
      exact ⟨⟨i + 1, by omega, by go_num, HN2, HB5⟩, by simp only [intOf]; omega⟩
    | false =>
      have c4 := (CT.out w5 HB5.out).1
      have t4 := fun d => (CT.out (w5.drewN d) (below_drewN HB5.out d)).2.1
      have t5 := fun d => (CT.out (w5.drewN d) (below_drewN HB5.out d)).2.2
      by_cases hyt : y.t = s.tr
      · have e1 : ((y.t.hi : Int) == (s.tr.hi : Int)) = true := by rw [hyt]; simp
        have e2 : ((y.t.lo : Int) == (s.tr.lo : Int)) = true := by rw [hyt]; simp
        have hine : ((i : Int) == (no : Int)) = false := by rw [beq_eq_false_iff_ne]; omega
        have HYT := Lib.hid hyt
        clear hyt
        go_wp2_with fail
        go_quiet (fail)
        clear c4 t4 t5
        obtain ⟨wa, ewa⟩ : ∃ wa, w5.drewN nq = wa := ⟨_, rfl⟩
        have hba : Below w3.heap.size w3 wa := by rw [← ewa]; exact below_drewN HB5.out nq
        rw [ewa]
        obtain ⟨G1, hG1⟩ : ∃ G1, G = G1 := ⟨_, rfl⟩
        obtain ⟨m1, hm1⟩ : ∃ m1, m = m1 := ⟨_, rfl⟩
        obtain ⟨K1, hK1⟩ : ∃ K1, K = K1 := ⟨_, rfl⟩
        obtain ⟨e1, he1⟩ : ∃ e1, y = e1 := ⟨_, rfl⟩
        obtain ⟨n1, hn1⟩ : ∃ n1, no = n1 := ⟨_, rfl⟩
        have RA : Hid (Rga base wa K1 Z F G1 m1) := Lib.hid (by rw [← hG1, ← hm1, ← hK1]; exact H3.out.below hba)
        have GA : Hid (Gro w wa K K1 Z Z) := Lib.hid (by rw [← hK1]; exact Gro.refl (FrK.of_below (BB3.out.trans (hba.mono BB3.out.size)) (Nat.le_refl _) K))
        have BA : Hid (Bk wa r 40 (spC s A n c)) := Lib.hid (B3.out.below hba B3.out.lt)
        have TA : Hid (RbT wa wa.heap.size A s.tags) := Lib.hid (Rd.more (Rd.below HA.out.1 (BB3.out.trans (hba.mono BB3.out.size))) (BB3.out.trans (hba.mono BB3.out.size)).size)
        have HE : Hid (m1.oe[i]? = some e1 ∧ m1.oe.length = n1 ∧ e1.t = s.tr ∧ e1.l.length ≤ 32) := Lib.hid ⟨by rw [← hm1, ← he1]; exact HY.out.1, by rw [← hm1, ← hn1]; exact HV0.out.2, by rw [← he1]; exact HYT.out, by
          have h6 := (HOK.out.opn _ (List.mem_of_getElem? HY.out.2.2)).2.1
          have h7 := HOK.out.cap
          rw [← he1]
          simp only [oeO, sps_length] at h6
          omega⟩
        have OS : Hid (OpS G1.op) := Lib.hid (by rw [← hG1]; exact HOK.out.ops)
        have HPL : Hid (({ G1 with op := G1.op.set i ⟨e1.t, sps e1.l ++ [s], G1.now⟩ } : GSt) = { G with op := GSt.putIn ⟨s.tr, G.lst s, G.now⟩ G.op } ∧ sps e1.l ++ [s] = G.lst s) := by
          have h6 : G.get s.tr = some (oeO y) := by
            have h7 := get_of_mem HOK.out.ops (List.mem_of_getElem? HY.out.2.2)
            rw [show (oeO y).t = s.tr from HYT.out] at h7
            exact h7
          have h8 : sps e1.l ++ [s] = G.lst s := by
            unfold GSt.lst
            rw [h6, ← he1]
            rfl
          refine Lib.hid ⟨?_, h8⟩
          rw [← hG1, h8, show e1.t = s.tr from HE.out.2.2.1, putIn_set (x := ⟨s.tr, G.lst s, G.now⟩) (y := oeO y) (fun j' z hj hz => HPOS.out j' z hj hz) HY.out.2.2 HYT.out]
        have HRK : Hid (∀ q, K1 q → q ≠ r) := by rw [← hK1]; exact HRK
        have hi1x : True := trivial
        clear hba ewa hi1x hn1 he1 hK1 hm1 hG1 e2 hine
        have hbn : ∃ b cc, m1.ov = .slice (some ⟨b, 0, none⟩) n1 cc := by
          obtain ⟨g, cap, hv3, -, -⟩ := RA.out.o.form (by have := HE.out.2.1; have := (List.getElem?_eq_some_iff.1 HE.out.1).1; omega)
          exact ⟨g, cap, by rw [hv3, HE.out.2.1]⟩
        obtain ⟨b, cc, hv1⟩ := hbn
        have hi1 : i < n1 := by have := HE.out.2.1; have := (List.getElem?_eq_some_iff.1 HE.out.1).1; omega
        have hi1' : (i : Int) < (n1 : Int) := by omega
        obtain ⟨lx, hlx⟩ : ∃ lx, e1.l.length = lx := ⟨_, rfl⟩
        have hRd := RA.out.below (Below.refl _ wa).drew
        have hBd : Bk wa.drew r 40 (spC s A n c) := BA.out
        have S0 := hRd.ad15 hv1 HE.out.1 hlx hBd
        have CP := Lib.hid (rCopy (c := c) s wa.drew (show RbT wa.drew wa.drew.heap.size A s.tags from TA.out) HN.out.1 (Nat.le_refl _) (by have := HN.out.2; omega))
        have HV1 := Lib.hid (And.intro hv1 hlx)
        have HRD := Lib.hid hRd
        have HBD := Lib.hid hBd
        clear hv1 hlx hRd hBd
        go_wp2_with fail
        refine wp_region_K (k := 19) (S := Ad15 F r b i lx n1 cc e1 s A n c) (by kernel_rfl) S0 (fun hHeld => ?_)
        simp only [List.size_toArray, List.length_cons, List.length_nil, Nat.zero_add, Nat.reduceAdd]
        refine' wpAnyK_take (k := 19) (i := 0) ?o0 (by kernel_rfl) (by kernel_rfl) (by kernel_rfl) (by kernel_rfl) (by kernel_rfl) ?q0 hHeld ?hw0 ?hy0 ?_
        case o0 => (simp only [List.getElem?_toArray, List.getElem?_cons_succ, List.getElem?_cons_zero]; rfl)
        case q0 => exact fun _ _ _ h => h
        case hw0 => rfl
        case hy0 => (intro w hSw; (try unfold Ad15 at hSw); (try dsimp only at hSw); go_simp; try (with_reducible rfl))
        simp only [Act.put, List.setIfInBounds_toArray, List.set_cons_zero, List.set_cons_succ]
        refine' wpAnyK_take (k := 19) (i := 1) ?o1 (by kernel_rfl) (by kernel_rfl) (by kernel_rfl) (by kernel_rfl) (by kernel_rfl) ?q1 hHeld ?hw1 ?hy1 ?_
        case o1 => (simp only [List.getElem?_toArray, List.getElem?_cons_succ, List.getElem?_cons_zero]; rfl)
        case q1 => exact fun _ _ _ h => h
        case hw1 => rfl
        case hy1 => (intro w hSw; (try unfold Ad15 at hSw); (try dsimp only at hSw); go_simp; try (with_reducible rfl))
        simp only [Act.put, List.setIfInBounds_toArray, List.set_cons_zero, List.set_cons_succ]
        refine' wpAnyK_take (k := 19) (i := 2) ?o2 (by kernel_rfl) (by kernel_rfl) (by kernel_rfl) (by kernel_rfl) (by kernel_rfl) ?q2 hHeld ?hw2 ?hy2 ?_
        case o2 => (simp only [List.getElem?_toArray, List.getElem?_cons_succ, List.getElem?_cons_zero]; rfl)
        case q2 => exact fun _ _ _ h => h
        case hw2 => rfl
        case hy2 => (intro w hSw; (try unfold Ad15 at hSw); (try dsimp only at hSw); go_simp; try (with_reducible rfl))
        simp only [Act.put, List.setIfInBounds_toArray, List.set_cons_zero, List.set_cons_succ]
        refine' wpAnyK_take (k := 19) (i := 3) ?o3 (by kernel_rfl) (by kernel_rfl) (by kernel_rfl) (by kernel_rfl) (by kernel_rfl) ?q3 hHeld ?hw3 ?hy3 ?_
        case o3 => (simp only [List.getElem?_toArray, List.getElem?_cons_succ, List.getElem?_cons_zero]; rfl)
        case q3 => exact fun _ _ _ h => h
        case hw3 => rfl
        case hy3 => (intro w hSw; (try unfold Ad15 at hSw); (try dsimp only at hSw); go_simp; try (with_reducible rfl))
        simp only [Act.put, List.setIfInBounds_toArray, List.set_cons_zero, List.set_cons_succ]
        refine' wpAnyK_take (k := 19) (i := 4) ?o4 (by kernel_rfl) (by kernel_rfl) (by kernel_rfl) (by kernel_rfl) (by kernel_rfl) ?q4 hHeld ?hw4 ?hy4 ?_
        case o4 => (simp only [List.getElem?_toArray, List.getElem?_cons_succ, List.getElem?_cons_zero]; rfl)
        case q4 => exact fun _ _ _ h => h
        case hw4 => rfl
        case hy4 => (intro w hSw; (try unfold Ad15 at hSw); (try dsimp only at hSw); go_simp; try (with_reducible rfl))
        simp only [Act.put, List.setIfInBounds_toArray, List.set_cons_zero, List.set_cons_succ]
        refine' wpAnyK_take (k := 19) (i := 5) ?o5 (by kernel_rfl) (by kernel_rfl) (by kernel_rfl) (by kernel_rfl) (by kernel_rfl) ?q5 hHeld ?hw5 ?hy5 ?_
        case o5 => (simp only [List.getElem?_toArray, List.getElem?_cons_succ, List.getElem?_cons_zero]; rfl)
        case q5 => exact fun _ _ _ h => h
        case hw5 => rfl
        case hy5 => (intro w hSw; (try unfold Ad15 at hSw); (try dsimp only at hSw); go_simp; try (with_reducible rfl))
        simp only [Act.put, List.setIfInBounds_toArray, List.set_cons_zero, List.set_cons_succ]
        refine' wpAnyK_take (k := 19) (i := 6) ?o6 (by kernel_rfl) (by kernel_rfl) (by kernel_rfl) (by kernel_rfl) (by kernel_rfl) ?q6 hHeld ?hw6 ?hy6 ?_
        case o6 => (simp only [List.getElem?_toArray, List.getElem?_cons_succ, List.getElem?_cons_zero]; rfl)
        case q6 => exact fun _ _ _ h => h
        case hw6 => rfl
        case hy6 => (intro w hSw; (try unfold Ad15 at hSw); (try dsimp only at hSw); go_simp; try (with_reducible rfl))
        simp only [Act.put, List.setIfInBounds_toArray, List.set_cons_zero, List.set_cons_succ]
        refine' wpAnyK_take (k := 19) (i := 7) ?o7 (by kernel_rfl) (by kernel_rfl) (by kernel_rfl) (by kernel_rfl) (by kernel_rfl) ?q7 hHeld ?hw7 ?hy7 ?_
        case o7 => (simp only [List.getElem?_toArray, List.getElem?_cons_succ, List.getElem?_cons_zero]; rfl)
        case q7 => exact fun _ _ _ h => h
        case hw7 => rfl
        case hy7 => (intro w hSw; (try unfold Ad15 at hSw); (try dsimp only at hSw); go_simp; try (with_reducible rfl))
        simp only [Act.put, List.setIfInBounds_toArray, List.set_cons_zero, List.set_cons_succ]
        refine' wpAnyK_take (k := 19) (i := 8) ?o8 (by kernel_rfl) (by kernel_rfl) (by kernel_rfl) (by kernel_rfl) (by kernel_rfl) ?q8 hHeld ?hw8 ?hy8 ?_
        case o8 => (simp only [List.getElem?_toArray, List.getElem?_cons_succ, List.getElem?_cons_zero]; rfl)
        case q8 => exact fun _ _ _ h => h
        case hw8 => rfl
        case hy8 => (intro w hSw; (try unfold Ad15 at hSw); (try dsimp only at hSw); go_simp; try (with_reducible rfl))
        simp only [Act.put, List.setIfInBounds_toArray, List.set_cons_zero, List.set_cons_succ]
        refine' wpAnyK_take (k := 19) (i := 9) ?o9 (by kernel_rfl) (by kernel_rfl) (by kernel_rfl) (by kernel_rfl) (by kernel_rfl) ?q9 hHeld ?hw9 ?hy9 ?_
        case o9 => (simp only [List.getElem?_toArray, List.getElem?_cons_succ, List.getElem?_cons_zero]; rfl)
        case q9 => exact fun _ _ _ h => h
        case hw9 => rfl
        case hy9 => (intro w hSw; (try unfold Ad15 at hSw); (try dsimp only at hSw); go_simp; try (with_reducible rfl))
        simp only [Act.put, List.setIfInBounds_toArray, List.set_cons_zero, List.set_cons_succ]
        refine' wpAnyK_take (k := 19) (i := 10) ?o10 (by kernel_rfl) (by kernel_rfl) (by kernel_rfl) (by kernel_rfl) (by kernel_rfl) ?q10 hHeld ?hw10 ?hy10 ?_
        case o10 => (simp only [List.getElem?_toArray, List.getElem?_cons_succ, List.getElem?_cons_zero]; rfl)
        case q10 => exact fun _ _ _ h => h
        case hw10 => rfl
        case hy10 => (intro w hSw; (try unfold Ad15 at hSw); (try dsimp only at hSw); go_simp; try (with_reducible rfl))
        simp only [Act.put, List.setIfInBounds_toArray, List.set_cons_zero, List.set_cons_succ]
        refine' wpAnyK_take (k := 19) (i := 11) ?o11 (by kernel_rfl) (by kernel_rfl) (by kernel_rfl) (by kernel_rfl) (by kernel_rfl) ?q11 hHeld ?hw11 ?hy11 ?_
        case o11 => (simp only [List.getElem?_toArray, List.getElem?_cons_succ, List.getElem?_cons_zero]; rfl)
        case q11 => exact fun _ _ _ h => h
        case hw11 => rfl
        case hy11 => (intro w hSw; (try unfold Ad15 at hSw); (try dsimp only at hSw); go_simp; try (with_reducible rfl))
        simp only [Act.put, List.setIfInBounds_toArray, List.set_cons_zero, List.set_cons_succ]
        refine' wpAnyK_take (k := 19) (i := 12) ?o12 (by kernel_rfl) (by kernel_rfl) (by kernel_rfl) (by kernel_rfl) (by kernel_rfl) ?q12 hHeld ?hw12 ?hy12 ?_
        case o12 => (simp only [List.getElem?_toArray, List.getElem?_cons_succ, List.getElem?_cons_zero]; rfl)
        case q12 => exact fun _ _ _ h => h
        case hw12 => rfl
        case hy12 => (intro w hSw; (try unfold Ad15 at hSw); (try dsimp only at hSw); go_simp; try (with_reducible rfl))
        simp only [Act.put, List.setIfInBounds_toArray, List.set_cons_zero, List.set_cons_succ]
        refine' wpAnyK_take (k := 19) (i := 13) ?o13 (by kernel_rfl) (by kernel_rfl) (by kernel_rfl) (by kernel_rfl) (by kernel_rfl) ?q13 hHeld ?hw13 ?hy13 ?_
        case o13 => (simp only [List.getElem?_toArray, List.getElem?_cons_succ, List.getElem?_cons_zero]; rfl)
        case q13 => exact fun _ _ _ h => h
        case hw13 => rfl
        case hy13 => (intro w hSw; (try unfold Ad15 at hSw); (try dsimp only at hSw); go_simp; try (with_reducible rfl))
        simp only [Act.put, List.setIfInBounds_toArray, List.set_cons_zero, List.set_cons_succ]
        refine' wpAnyK_step (k := 19) (i := 14) (by kernel_rfl) ?o14 ?hw14 ?_
        case o14 => (simp only [List.getElem?_toArray, List.getElem?_cons_succ, List.getElem?_cons_zero]; rfl)
        case hw14 => rfl
        intro KK hKK
        go_simp
        refine CP.out.mono ?_
        rintro e w5 ⟨A', c', rfl, hr5, hb5, hc5, hlo5, -⟩
        obtain ⟨A7, c7, w7, hrun7, f7, k7, ho7, k8, ho8, K9, Z9, g9, R9⟩ := HRD.out.setJ (c' := c') OS.out HV1.out.1 HE.out.2.1 HE.out.1 HV1.out.2 (by have := HE.out.2.2.2; have := HV1.out.2; omega) hb5 hr5 HN.out.1 (by have := HN.out.2; omega) hlo5
        have hR5 := HRD.out.below hb5
        have hB5 := HBD.out.below hb5 HBD.out.lt
        have J5 := hR5.ad15 HV1.out.1 HE.out.1 HV1.out.2 hB5
        have b6 : Below w5.heap.size w5 (w5.alloc (.cells (spC s A' n c') 40)) := (Below.refl _ w5).alloc (Nat.le_refl _) _
        have hB6 := hB5.below b6 hB5.lt
        have J6 := (hR5.below b6).ad15 HV1.out.1 HE.out.1 HV1.out.2 hB6
        have hB7 : Bk w7 r 40 (spC s A n c) := f7.bk HBD.out (fun e2 => by
          exact HRK.out r (HRD.out.kR e1 (List.mem_of_getElem? HE.out.1) r e2) rfl)
        have J7 : Ad15 F r b i lx n1 cc e1 s A n c w7 := ad15_of k7 ho7 HV1.out.1 HE.out.2.1 HE.out.1 HV1.out.2 hB7
        have hv1 := HV1.out.1
        have hn1 := HE.out.2.1
        rw [hv1, hn1] at ho7 ho8
        have q7 : w7.cell? ⟨b, i * 4 + 2, none⟩ = some (.slice e1.A lx e1.c) := J7.2.1
        have z7 := ho7.frozenAt (i * 4 + 2)
        have F9 := Lib.hid (And.intro g9 R9)
        have K8 := Lib.hid k8
        have O8 := Lib.hid ho8
        clear hr5 hb5 hc5 hlo5 f7 k7 ho7 k8 ho8 g9 R9 hR5 hB5 b6 hB6 hB7 hv1 hn1
        go_wp2_with fail
        clear hHeld
        refine hKK.out _ _ J5 (fun hHeld => ?_)
        clear hKK KK
        try simp only [Act.put, List.setIfInBounds_toArray, List.set_cons_zero, List.set_cons_succ]
        refine' wpAnyK_step (k := 19) (i := 15) (by kernel_rfl) ?o15 ?hw15 ?_
        case o15 => (simp only [List.getElem?_toArray, List.getElem?_cons_succ, List.getElem?_cons_zero]; rfl)
        case hw15 => rfl
        intro KK hKK
        go_simp
        clear hHeld
        refine hKK.out _ _ J6 (fun hHeld => ?_)
        clear hKK KK
        try simp only [Act.put, List.setIfInBounds_toArray, List.set_cons_zero, List.set_cons_succ]
        refine' wpAnyK_step (k := 19) (i := 16) (by kernel_rfl) ?o16 ?hw16 ?_
        case o16 => (simp only [List.getElem?_toArray, List.getElem?_cons_succ, List.getElem?_cons_zero]; rfl)
        case hw16 => rfl
        intro KK hKK
        go_simp
        clear hHeld
        refine hKK.out _ _ J7 (fun hHeld => ?_)
        clear hKK KK
        try simp only [Act.put, List.setIfInBounds_toArray, List.set_cons_zero, List.set_cons_succ]
        refine' wpAnyK_step (k := 19) (i := 17) (by kernel_rfl) ?o17 ?hw17 ?_
        case o17 => (simp only [List.getElem?_toArray, List.getElem?_cons_succ, List.getElem?_cons_zero]; rfl)
        case hw17 => rfl
        intro KK hKK
        go_simp
        clear hHeld
        refine hKK.out _ _ J7 (fun hHeld => ?_)
        clear hKK KK
        try simp only [Act.put, List.setIfInBounds_toArray, List.set_cons_zero, List.set_cons_succ]
        refine' wpAnyK_step (k := 19) (i := 18) (by kernel_rfl) ?o18 ?hw18 ?_
        case o18 => (simp only [List.getElem?_toArray, List.getElem?_cons_succ, List.getElem?_cons_zero]; rfl)
        case hw18 => rfl
        intro KK hKK
        go_simp
        clear hHeld
        refine hKK.out _ _ J7 (fun hHeld => ?_)
        clear hKK KK
        try simp only [Act.put, List.setIfInBounds_toArray, List.set_cons_zero, List.set_cons_succ]
        refine wpAnyK_cut (by kernel_rfl) (by simp only [List.getElem?_toArray, List.getElem?_cons_succ, List.getElem?_cons_zero]; rfl) (by kernel_rfl) (by kernel_rfl) (by rfl) ?_
        clear hHeld
        go_simp
        clear hrun7 J5 J6 J7 q7 z7 CP S0
        obtain ⟨w8, e8⟩ : ∃ w8, w7.setCell ⟨b, i * 4 + 2, none⟩ (.slice A7 (lx + 1) c7) = w8 := ⟨_, rfl⟩
        rw [e8] at F9 K8 O8 ⊢
        clear e8
        have q8 : ∃ u, w8.cell? ⟨b, i * 4 + 3, none⟩ = some u := by
          rw [O8.out.cellAt (i * 4 + 3) (by omega)]
          exact ⟨_, List.getElem?_eq_getElem (by rw [flatR_length oeC_length, List.length_set]; have := HE.out.2.1; omega)⟩
        obtain ⟨u8, q8⟩ := q8
        have z8 := O8.out.frozenAt (i * 4 + 3)
        have c48 : w8.drew.cell? ⟨F, 4, none⟩ = some (.slice (some ⟨b, 0, none⟩) n1 cc) := by
          rw [show w8.drew.cell? ⟨F, 4, none⟩ = w8.cell? ⟨F, 4, none⟩ from rfl, K8.out.cell 4, ← HV1.out.1]
          rfl
        have c38 : w8.drew.cell? ⟨F, 3, none⟩ = some (.int .i64 G1.now) := (K8.out.cell 3).trans rfl
        go_wp2_with fail
        refine wp_region_K (k := 11) (S := fun w' => w'.cell? ⟨F, 4, none⟩ = some (.slice (some ⟨b, 0, none⟩) n1 cc) ∧ w'.cell? ⟨F, 3, none⟩ = some (.int .i64 G1.now)) (by kernel_rfl) ⟨c48, c38⟩ (fun hHeld => ?_)
        simp only [List.size_toArray, List.length_cons, List.length_nil, Nat.zero_add, Nat.reduceAdd]
        refine' wpAnyK_take (k := 11) (i := 0) ?o0 (by kernel_rfl) (by kernel_rfl) (by kernel_rfl) (by kernel_rfl) (by kernel_rfl) ?q0 hHeld ?hw0 ?hy0 ?_
        case o0 => (simp only [List.getElem?_toArray, List.getElem?_cons_succ, List.getElem?_cons_zero]; rfl)
        case q0 => exact fun _ _ _ h => h
        case hw0 => rfl
        case hy0 => (intro w hSw; (try unfold Ad15 at hSw); (try dsimp only at hSw); go_simp; try (with_reducible rfl))
        simp only [Act.put, List.setIfInBounds_toArray, List.set_cons_zero, List.set_cons_succ]
        refine' wpAnyK_take (k := 11) (i := 1) ?o1 (by kernel_rfl) (by kernel_rfl) (by kernel_rfl) (by kernel_rfl) (by kernel_rfl) ?q1 hHeld ?hw1 ?hy1 ?_
        case o1 => (simp only [List.getElem?_toArray, List.getElem?_cons_succ, List.getElem?_cons_zero]; rfl)
        case q1 => exact fun _ _ _ h => h
        case hw1 => rfl
        case hy1 => (intro w hSw; (try unfold Ad15 at hSw); (try dsimp only at hSw); go_simp; try (with_reducible rfl))
        simp only [Act.put, List.setIfInBounds_toArray, List.set_cons_zero, List.set_cons_succ]
        refine' wpAnyK_take (k := 11) (i := 2) ?o2 (by kernel_rfl) (by kernel_rfl) (by kernel_rfl) (by kernel_rfl) (by kernel_rfl) ?q2 hHeld ?hw2 ?hy2 ?_
        case o2 => (simp only [List.getElem?_toArray, List.getElem?_cons_succ, List.getElem?_cons_zero]; rfl)
        case q2 => exact fun _ _ _ h => h
        case hw2 => rfl
        case hy2 => (intro w hSw; (try unfold Ad15 at hSw); (try dsimp only at hSw); go_simp; try (with_reducible rfl))
        simp only [Act.put, List.setIfInBounds_toArray, List.set_cons_zero, List.set_cons_succ]
        refine' wpAnyK_take (k := 11) (i := 3) ?o3 (by kernel_rfl) (by kernel_rfl) (by kernel_rfl) (by kernel_rfl) (by kernel_rfl) ?q3 hHeld ?hw3 ?hy3 ?_
        case o3 => (simp only [List.getElem?_toArray, List.getElem?_cons_succ, List.getElem?_cons_zero]; rfl)
        case q3 => exact fun _ _ _ h => h
        case hw3 => rfl
        case hy3 => (intro w hSw; (try unfold Ad15 at hSw); (try dsimp only at hSw); go_simp; try (with_reducible rfl))
        simp only [Act.put, List.setIfInBounds_toArray, List.set_cons_zero, List.set_cons_succ]
        refine' wpAnyK_take (k := 11) (i := 4) ?o4 (by kernel_rfl) (by kernel_rfl) (by kernel_rfl) (by kernel_rfl) (by kernel_rfl) ?q4 hHeld ?hw4 ?hy4 ?_
        case o4 => (simp only [List.getElem?_toArray, List.getElem?_cons_succ, List.getElem?_cons_zero]; rfl)
        case q4 => exact fun _ _ _ h => h
        case hw4 => rfl
        case hy4 => (intro w hSw; (try unfold Ad15 at hSw); (try dsimp only at hSw); go_simp; try (with_reducible rfl))
        simp only [Act.put, List.setIfInBounds_toArray, List.set_cons_zero, List.set_cons_succ]
        refine' wpAnyK_take (k := 11) (i := 5) ?o5 (by kernel_rfl) (by kernel_rfl) (by kernel_rfl) (by kernel_rfl) (by kernel_rfl) ?q5 hHeld ?hw5 ?hy5 ?_
        case o5 => (simp only [List.getElem?_toArray, List.getElem?_cons_succ, List.getElem?_cons_zero]; rfl)
        case q5 => exact fun _ _ _ h => h
        case hw5 => rfl
        case hy5 => (intro w hSw; (try unfold Ad15 at hSw); (try dsimp only at hSw); go_simp; try (with_reducible rfl))
        simp only [Act.put, List.setIfInBounds_toArray, List.set_cons_zero, List.set_cons_succ]
        refine' wpAnyK_take (k := 11) (i := 6) ?o6 (by kernel_rfl) (by kernel_rfl) (by kernel_rfl) (by kernel_rfl) (by kernel_rfl) ?q6 hHeld ?hw6 ?hy6 ?_
        case o6 => (simp only [List.getElem?_toArray, List.getElem?_cons_succ, List.getElem?_cons_zero]; rfl)
        case q6 => exact fun _ _ _ h => h
        case hw6 => rfl
        case hy6 => (intro w hSw; (try unfold Ad15 at hSw); (try dsimp only at hSw); go_simp; try (with_reducible rfl))
        simp only [Act.put, List.setIfInBounds_toArray, List.set_cons_zero, List.set_cons_succ]
        refine' wpAnyK_take (k := 11) (i := 7) ?o7 (by kernel_rfl) (by kernel_rfl) (by kernel_rfl) (by kernel_rfl) (by kernel_rfl) ?q7 hHeld ?hw7 ?hy7 ?_
        case o7 => (simp only [List.getElem?_toArray, List.getElem?_cons_succ, List.getElem?_cons_zero]; rfl)
        case q7 => exact fun _ _ _ h => h
        case hw7 => rfl
        case hy7 => (intro w hSw; (try unfold Ad15 at hSw); (try dsimp only at hSw); go_simp; try (with_reducible rfl))
        simp only [Act.put, List.setIfInBounds_toArray, List.set_cons_zero, List.set_cons_succ]
        refine' wpAnyK_take (k := 11) (i := 8) ?o8 (by kernel_rfl) (by kernel_rfl) (by kernel_rfl) (by kernel_rfl) (by kernel_rfl) ?q8 hHeld ?hw8 ?hy8 ?_
        case o8 => (simp only [List.getElem?_toArray, List.getElem?_cons_succ, List.getElem?_cons_zero]; rfl)
        case q8 => exact fun _ _ _ h => h
        case hw8 => rfl
        case hy8 => (intro w hSw; (try unfold Ad15 at hSw); (try dsimp only at hSw); go_simp; try (with_reducible rfl))
        simp only [Act.put, List.setIfInBounds_toArray, List.set_cons_zero, List.set_cons_succ]
        refine' wpAnyK_step (k := 11) (i := 9) (by kernel_rfl) ?o9 ?hw9 ?_
        case o9 => (simp only [List.getElem?_toArray, List.getElem?_cons_succ, List.getElem?_cons_zero]; rfl)
        case hw9 => rfl
        intro KK hKK
        go_simp
        clear hHeld
        refine hKK.out _ _ ⟨c48, c38⟩ (fun hHeld => ?_)
        clear hKK KK
        try simp only [Act.put, List.setIfInBounds_toArray, List.set_cons_zero, List.set_cons_succ]
        refine' wpAnyK_step (k := 11) (i := 10) (by kernel_rfl) ?o10 ?hw10 ?_
        case o10 => (simp only [List.getElem?_toArray, List.getElem?_cons_succ, List.getElem?_cons_zero]; rfl)
        case hw10 => rfl
        intro KK hKK
        go_simp
        clear hHeld
        refine hKK.out _ _ ⟨c48, c38⟩ (fun hHeld => ?_)
        clear hKK KK
        try simp only [Act.put, List.setIfInBounds_toArray, List.set_cons_zero, List.set_cons_succ]
        refine wpAnyK_cut (by kernel_rfl) (by simp only [List.getElem?_toArray, List.getElem?_cons_succ, List.getElem?_cons_zero]; rfl) (by kernel_rfl) (by kernel_rfl) (by rfl) ?_
        clear hHeld
        go_simp
        clear c48 c38 q8 z8 K8 O8
        obtain ⟨w9, e9⟩ : ∃ w9, w8.setCell ⟨b, i * 4 + 3, none⟩ (.int .i64 G1.now) = w9 := ⟨_, rfl⟩
        have e9' : w8.drew.setCell ⟨b, i * 4 + 3, none⟩ (.int .i64 G1.now) = w9.drew := by rw [← e9]; rfl
        rw [e9] at F9
        try rw [e9]
        try rw [e9']
        clear e9 e9'
        obtain ⟨m9, hm9⟩ : ∃ m9 : RM, { m1 with oe := m1.oe.set i (nxE e1 s A' n c' A7 c7 G1.now) } = m9 := ⟨_, rfl⟩
        have hi9 : m9.oe[i]? = some (nxE e1 s A' n c' A7 c7 G1.now) := by
          rw [← hm9]
          exact List.getElem?_set_self (by have := HE.out.2.1; omega)
        have hv9 : m9.ov = .slice (some ⟨b, 0, none⟩) n1 cc := by rw [← hm9]; exact HV1.out.1
        have hl9 : (nxE e1 s A' n c' A7 c7 G1.now).l.length = lx + 1 := by
          show (e1.l ++ [_]).length = _
          rw [List.length_append, HV1.out.2]
          rfl
        obtain ⟨g9, R9⟩ := F9.out
        rw [hm9, HPL.out.1] at R9
        have R10 := R9
        have HG10 := Lib.hid ((GA.out.trans (Gro.refl (FrK.refl wa K1).drew)).trans g9)
        have c410 : w9.cell? ⟨F, 4, none⟩ = some (.slice (some ⟨b, 0, none⟩) n1 cc) := by rw [R9.blk.cell 4, ← hv9]; rfl
        have c210 : w9.cell? ⟨F, 2, none⟩ = some (.int .i64 G.cap) := (R9.blk.cell 2).trans rfl
        have x10 : w9.cell? ⟨b, i * 4 + 2, none⟩ = some (.slice A7 (lx + 1) c7) := by
          have h3 := R9.o
          have h4 : m9.oe.length = n1 := by rw [← hm9]; exact (List.length_set ..).trans HE.out.2.1
          rw [hv9, h4] at h3
          rw [h3.cellAt (i * 4 + 2) (by omega), flatR_get oeC_length hi9 2 (by omega), ← hl9]
          rfl
        have hll : (G.lst s).length = lx + 1 := by rw [← HPL.out.2, List.length_append, sps_length, HV1.out.2]; rfl
        have hadd := GSt.add_eq G s
        rw [if_neg (by rw [HQ.out]; decide), if_neg HNIN.out, hll] at hadd
        have HR10 := Lib.hid R10
        have HI9 := Lib.hid (And.intro hi9 (And.intro hl9 hm9))
        have HAD := Lib.hid hadd
        clear g9 R9 R10 hi9 hv9 hl9 hm9 hll hadd F9
        by_cases hfull : G.cap ≤ ((lx + 1 : Nat) : Int)
        · have hfull' : G.cap ≤ (lx : Int) + 1 := by simpa using hfull
          have hfd : decide (G.cap ≤ (lx : Int) + 1) = true := by simpa using hfull
          have hfd2 : decide ((lx : Int) + 1 ≥ G.cap) = true := by simpa using hfull
          have hadd := HAD.out
          rw [if_pos hfull] at hadd
          have HAD2 := Lib.hid hadd
          clear hadd hfull
          go_wp2_with fail
          go_quiet (fail)
          have hR11 := HR10.out.below (below_drewN (Below.refl _ w9) (1 + nq))
          have CC := Lib.hid (rgClose hR11 (OpS.putIn HOK.out.ops) HI9.out.1 (by rw [hR11.ceN]; have := HOK.out.num; show G.cl.length ≤ _; omega) (by show G.all.length ≤ _; have := HALL.out; omega) (by rw [hR11.oN]; have := putIn_length ⟨s.tr, G.lst s, G.now⟩ G.op; have := HOK.out.num; show (GSt.putIn _ G.op).length ≤ _; omega) (by rw [HI9.out.2.1]; have := HE.out.2.2.2; have := HV1.out.2; omega) (fun x hx => by
            have h3 := (hR11.el _ (List.mem_of_getElem? HI9.out.1) x hx).ok.len
            have h4 : x.s ∈ G.lst s := by
              rw [← HPL.out.2]
              have h5 : x.s ∈ (nxE e1 s A' n c' A7 c7 G1.now).l.map (·.s) := List.mem_map.2 ⟨x, hx, rfl⟩
              have h6 : (nxE e1 s A' n c' A7 c7 G1.now).l.map (·.s) = sps e1.l ++ [s] := by simp [nxE, sps]
              rw [h6] at h5
              exact h5
            have h7 := chk_tags ((HOK.out.lst HQ.out).2.1 x.s h4).1
            omega))
          clear c410 c210 x10
          go_wp2_with fail
          refine CC.out.mono ?_
          rintro e w12 ⟨rfl, K12, Z12, m12, g12, R12⟩
          have HF := Lib.hid (And.intro g12 R12)
          clear g12 R12 CC hR11
          go_wp2_with fail
          go_ret2
          unfold RAddP
          rw [HAD2.out]
          refine ⟨rfl, K12, Z12, m12, (HG10.out.trans (Gro.refl (FrK.of_below (below_drewN (Below.refl _ w9) (1 + nq)) (Nat.le_refl _) K9))).trans HF.out.1, ?_⟩
          have h8 : ({ G with op := GSt.putIn ⟨s.tr, G.lst s, G.now⟩ G.op } : GSt).close (nxE e1 s A' n c' A7 c7 G1.now).t (sps (nxE e1 s A' n c' A7 c7 G1.now).l) = G.close s.tr (G.lst s) := by
            have h9 : (nxE e1 s A' n c' A7 c7 G1.now).t = s.tr := HE.out.2.2.1
            have h10 : sps (nxE e1 s A' n c' A7 c7 G1.now).l = G.lst s := by
              rw [← HPL.out.2]
              simp [nxE, sps]
            rw [h9, h10]
            unfold GSt.close
            simp only
            rw [delOf_putIn ⟨s.tr, G.lst s, G.now⟩ G.op]
          rw [← h8]
          exact HF.out.2
        · have hfull' : ¬G.cap ≤ (lx : Int) + 1 := by simpa using hfull
          have hfd : decide (G.cap ≤ (lx : Int) + 1) = false := by simpa using hfull
          have hfd2 : decide ((lx : Int) + 1 ≥ G.cap) = false := by simpa using hfull
          have hadd := HAD.out
          rw [if_neg hfull] at hadd
          have HAD2 := Lib.hid hadd
          clear hadd hfull
          go_wp2_with fail
          go_quiet (fail)
          clear c410 c210 x10
          go_wp2_with fail
          go_ret2
          unfold RAddP
          rw [HAD2.out]
          exact ⟨rfl, K9, Z9, m9, HG10.out.trans (Gro.refl (FrK.of_below (below_drewN (Below.refl _ w9).drew nq) (Nat.le_refl _) K9)), HR10.out.below (below_drewN (Below.refl _ w9).drew nq)⟩
      · have HNE : Hid (∀ z, G.op[i]? = some z → Tr.lt z.t s.tr = false ∧ z.t ≠ s.tr) := Lib.hid fun z hz => by
          rw [HY.out.2.2] at hz
          cases hz
          exact ⟨HY.out.2.1, hyt⟩
        have hine : ((i : Int) == (no : Int)) = false := by rw [beq_eq_false_iff_ne]; omega
        have hcase : (((y.t.hi : Int) == (s.tr.hi : Int)) = false) ∨ (((y.t.hi : Int) == (s.tr.hi : Int)) = true ∧ ((y.t.lo : Int) == (s.tr.lo : Int)) = false) := by
          by_cases hh : y.t.hi = s.tr.hi
          · refine .inr ⟨by rw [hh]; simp, ?_⟩
            rw [beq_eq_false_iff_ne]
            intro e
            apply hyt
            have hl : y.t.lo = s.tr.lo := by omega
            exact (show (⟨y.t.hi, y.t.lo⟩ : Tr) = ⟨s.tr.hi, s.tr.lo⟩ by rw [hh, hl])
          · refine .inl ?_
            rw [beq_eq_false_iff_ne]
            omega
        clear hyt
        rcases hcase with e1 | ⟨e1, e2⟩
        · skip
          go_wp2_with fail
          go_quiet (fail)
          clear c4 t4 t5
          obtain ⟨wz, ewz⟩ : ∃ wz, w5.drewN nq = wz := ⟨_, rfl⟩
          have hbz : Below w3.heap.size w3 wz := by rw [← ewz]; exact below_drewN HB5.out nq
          rw [ewz]
          have RZ := Lib.hid (H3.out.below hbz)
          have BZ := Lib.hid (B3.out.below hbz B3.out.lt)
          have GZ : Hid (Gro w wz K K Z Z) := Lib.hid (Gro.refl (FrK.of_below (BB3.out.trans (hbz.mono BB3.out.size)) (Nat.le_refl _) K))
          clear hbz ewz e1 hine
          obtain ⟨A0, hA0⟩ : ∃ A0 : Option Addr, some ⟨b, 0, none⟩ = A0 := ⟨_, rfl⟩
          rw [hA0] at HV0
          clear hA0
          obtain ⟨w6, J6⟩ := RZ.out.insJ s.tr HV0.out.1 HV0.out.2 hi (by omega)
          obtain ⟨A2, c2, w2i, A4, c4i, w4, A5, c5, w5i, hrun2, kb2, hrun4, kb4, hrun5, kb5, hw6, f2, f4, f5, K1, g6, R6⟩ := J6
          have hsl : ∀ W, (Instr.slice 70 (.slice A0 no c0) (some (.int .i64 (i : Int))) none none).run Tryz.prog W = .ok (.slice (cutA A0 c0 i 4) (no - i) (c0 - i)) W := fun W => run_slOl W A0 no c0 i hi
          have hsl1 : ∀ W, (Instr.slice 70 (.slice A0 no c0) none (some (.int .i64 (i : Int))) none).run Tryz.prog W = .ok (.slice A0 i c0) W := fun W => run_slOh W A0 no c0 i (by
            obtain ⟨A1, c1, e, h9, -⟩ := own_form RZ.out.o
            rw [HV0.out.1, HV0.out.2] at e
            rw [HV0.out.2] at h9
            cases e
            omega)
          obtain ⟨Ad, hAd⟩ : ∃ Ad, cutA A0 c0 i 4 = Ad := ⟨_, rfl⟩
          rw [hAd] at hsl hrun2
          have cz4 : wz.cell? ⟨F, 4, none⟩ = some (.slice A0 no c0) := by rw [RZ.out.blk.cell 4, ← HV0.out.1]; rfl
          have cz4' : (wz.alloc (.cells #[] 79)).cell? ⟨F, 4, none⟩ = some (.slice A0 no c0) := by rw [Bk.cell (RZ.out.blk.alloc (.cells #[] 79)) 4, ← HV0.out.1]; rfl
          have d4 : w2i.drew.cell? ⟨F, 4, none⟩ = some (.slice A0 no c0) := by
            rw [show w2i.drew.cell? ⟨F, 4, none⟩ = w2i.cell? ⟨F, 4, none⟩ from rfl, kb2.cell 4, ← HV0.out.1]
            rfl
          have B2i : Bk w2i r 40 (spC s A n c) := f2.bk BZ.out fun e => e
          have d5 : (loadK 37 ⟨r, 0, none⟩).run Tryz.prog w2i.drew = .ok (trV s.tr) w2i.drew := ldTrB (o := 0) (a := s.hi) (b := s.lo) (show Bk w2i.drew r _ _ from B2i) rfl rfl
          have b3 : Below w2i.heap.size w2i (w2i.alloc (.cells (newC s.tr) 79)).drew := ((Below.refl _ w2i).alloc (Nat.le_refl _) _).drew
          have d43 : (w2i.alloc (.cells (newC s.tr) 79)).drew.cell? ⟨F, 4, none⟩ = some (.slice A0 no c0) := by
            rw [Bk.cell (kb2.below b3 kb2.lt) 4, ← HV0.out.1]
            rfl
          have d53 : (loadK 37 ⟨r, 0, none⟩).run Tryz.prog (w2i.alloc (.cells (newC s.tr) 79)).drew = .ok (trV s.tr) (w2i.alloc (.cells (newC s.tr) 79)).drew := ldTrB (o := 0) (a := s.hi) (b := s.lo) (B2i.below b3 B2i.lt) rfl rfl
          have B4 : Bk w4 r 40 (spC s A n c) := f4.bk BZ.out fun e => HRK.out r e rfl
          have d44 : w4.cell? ⟨F, 4, none⟩ = some (.slice A0 no c0) := by rw [kb4.cell 4, ← HV0.out.1]; rfl
          have d54 : (loadK 37 ⟨r, 0, none⟩).run Tryz.prog w4 = .ok (trV s.tr) w4 := ldTrB (o := 0) (a := s.hi) (b := s.lo) B4 rfl rfl
          have B5 : Bk w5i r 40 (spC s A n c) := f5.bk BZ.out fun e => HRK.out r e rfl
          have d45 : w5i.cell? ⟨F, 4, none⟩ = some (.slice A0 no c0) := by rw [kb5.cell 4, ← HV0.out.1]; rfl
          have d55 : (loadK 37 ⟨r, 0, none⟩).run Tryz.prog w5i = .ok (trV s.tr) w5i := ldTrB (o := 0) (a := s.hi) (b := s.lo) B5 rfl rfl
          have z45 := kb5.frozen 4
          have G6 := Lib.hid (And.intro hw6 (And.intro g6 R6))
          have F6 := Lib.hid (And.intro f5 kb5)
          have hrun4' : (appKG #[70, 70] 70 #[.slice A0 i c0, .slice (some ⟨w2i.heap.size, 0, none⟩) 1 1]).run Tryz.prog (w2i.alloc (.cells #[.int .u64 (s.tr.hi : Nat), .int .u64 (s.tr.lo : Nat), .slice none 0 0, .int .i64 0] 79)).drew = .ok (.slice A4 (i + 1) c4i) w4 := hrun4
          clear hrun4 hAd kb2 B2i b3 kb4 B4 kb5 B5 hw6 g6 R6 f2 f4 f5
          go_wp2_with fail
          clear cz4 cz4' hrun2
          refine wp_region_K (k := 16) (S := fun w' => w'.cell? ⟨F, 4, none⟩ = some (.slice A0 no c0) ∧ (loadK 37 ⟨r, 0, none⟩).run Tryz.prog w' = .ok (trV s.tr) w') (by kernel_rfl) ⟨d4, d5⟩ (fun hHeld => ?_)
          simp only [List.size_toArray, List.length_cons, List.length_nil, Nat.zero_add, Nat.reduceAdd]
          refine' wpAnyK_take (k := 16) (i := 0) ?o0 (by kernel_rfl) (by kernel_rfl) (by kernel_rfl) (by kernel_rfl) (by kernel_rfl) ?q0 hHeld ?hw0 ?hy0 ?_
          case o0 => (simp only [List.getElem?_toArray, List.getElem?_cons_succ, List.getElem?_cons_zero]; rfl)
          case q0 => exact fun _ _ _ h => h
          case hw0 => rfl
          case hy0 => (intro w hSw; (try unfold Ad15 at hSw); (try dsimp only at hSw); go_simp; try (with_reducible rfl))
          simp only [Act.put, List.setIfInBounds_toArray, List.set_cons_zero, List.set_cons_succ]
          refine' wpAnyK_take (k := 16) (i := 1) ?o1 (by kernel_rfl) (by kernel_rfl) (by kernel_rfl) (by kernel_rfl) (by kernel_rfl) ?q1 hHeld ?hw1 ?hy1 ?_
          case o1 => (simp only [List.getElem?_toArray, List.getElem?_cons_succ, List.getElem?_cons_zero]; rfl)
          case q1 => exact fun _ _ _ h => h
          case hw1 => rfl
          case hy1 => (intro w hSw; (try unfold Ad15 at hSw); (try dsimp only at hSw); go_simp; try (with_reducible rfl))
          simp only [Act.put, List.setIfInBounds_toArray, List.set_cons_zero, List.set_cons_succ]
          refine' wpAnyK_take (k := 16) (i := 2) ?o2 (by kernel_rfl) (by kernel_rfl) (by kernel_rfl) (by kernel_rfl) (by kernel_rfl) ?q2 hHeld ?hw2 ?hy2 ?_
          case o2 => (simp only [List.getElem?_toArray, List.getElem?_cons_succ, List.getElem?_cons_zero]; rfl)
          case q2 => exact fun _ _ _ h => h
          case hw2 => rfl
          case hy2 => (intro w hSw; (try unfold Ad15 at hSw); (try dsimp only at hSw); go_simp; try (with_reducible rfl))
          simp only [Act.put, List.setIfInBounds_toArray, List.set_cons_zero, List.set_cons_succ]
          refine' wpAnyK_take (k := 16) (i := 3) ?o3 (by kernel_rfl) (by kernel_rfl) (by kernel_rfl) (by kernel_rfl) (by kernel_rfl) ?q3 hHeld ?hw3 ?hy3 ?_
          case o3 => (simp only [List.getElem?_toArray, List.getElem?_cons_succ, List.getElem?_cons_zero]; rfl)
          case q3 => exact fun _ _ _ h => h
          case hw3 => rfl
          case hy3 => (intro w hSw; (try unfold Ad15 at hSw); (try dsimp only at hSw); go_simp; try (with_reducible rfl))
          simp only [Act.put, List.setIfInBounds_toArray, List.set_cons_zero, List.set_cons_succ]
          refine' wpAnyK_take (k := 16) (i := 4) ?o4 (by kernel_rfl) (by kernel_rfl) (by kernel_rfl) (by kernel_rfl) (by kernel_rfl) ?q4 hHeld ?hw4 ?hy4 ?_
          case o4 => (simp only [List.getElem?_toArray, List.getElem?_cons_succ, List.getElem?_cons_zero]; rfl)
          case q4 => exact fun _ _ _ h => h
          case hw4 => rfl
          case hy4 => (intro w hSw; (try unfold Ad15 at hSw); (try dsimp only at hSw); go_simp; try (with_reducible rfl))
          simp only [Act.put, List.setIfInBounds_toArray, List.set_cons_zero, List.set_cons_succ]
          refine' wpAnyK_take (k := 16) (i := 5) ?o5 (by kernel_rfl) (by kernel_rfl) (by kernel_rfl) (by kernel_rfl) (by kernel_rfl) ?q5 hHeld ?hw5 ?hy5 ?_
          case o5 => (simp only [List.getElem?_toArray, List.getElem?_cons_succ, List.getElem?_cons_zero]; rfl)
          case q5 => exact fun _ _ _ h => h
          case hw5 => rfl
          case hy5 => (intro w hSw; (try unfold Ad15 at hSw); (try dsimp only at hSw); go_simp; try (with_reducible rfl))
          simp only [Act.put, List.setIfInBounds_toArray, List.set_cons_zero, List.set_cons_succ]
          refine' wpAnyK_take (k := 16) (i := 6) ?o6 (by kernel_rfl) (by kernel_rfl) (by kernel_rfl) (by kernel_rfl) (by kernel_rfl) ?q6 hHeld ?hw6 ?hy6 ?_
          case o6 => (simp only [List.getElem?_toArray, List.getElem?_cons_succ, List.getElem?_cons_zero]; rfl)
          case q6 => exact fun _ _ _ h => h
          case hw6 => rfl
          case hy6 => (intro w hSw; (try unfold Ad15 at hSw); (try dsimp only at hSw); go_simp; try (with_reducible rfl))
          simp only [Act.put, List.setIfInBounds_toArray, List.set_cons_zero, List.set_cons_succ]
          refine' wpAnyK_take (k := 16) (i := 7) ?o7 (by kernel_rfl) (by kernel_rfl) (by kernel_rfl) (by kernel_rfl) (by kernel_rfl) ?q7 hHeld ?hw7 ?hy7 ?_
          case o7 => (simp only [List.getElem?_toArray, List.getElem?_cons_succ, List.getElem?_cons_zero]; rfl)
          case q7 => exact fun _ _ _ h => h
          case hw7 => rfl
          case hy7 => (intro w hSw; (try unfold Ad15 at hSw); (try dsimp only at hSw); go_simp; try (with_reducible rfl))
          simp only [Act.put, List.setIfInBounds_toArray, List.set_cons_zero, List.set_cons_succ]
          refine' wpAnyK_take (k := 16) (i := 8) ?o8 (by kernel_rfl) (by kernel_rfl) (by kernel_rfl) (by kernel_rfl) (by kernel_rfl) ?q8 hHeld ?hw8 ?hy8 ?_
          case o8 => (simp only [List.getElem?_toArray, List.getElem?_cons_succ, List.getElem?_cons_zero]; rfl)
          case q8 => exact fun _ _ _ h => h
          case hw8 => rfl
          case hy8 => (intro w hSw; (try unfold Ad15 at hSw); (try dsimp only at hSw); go_simp; try (with_reducible rfl))
          simp only [Act.put, List.setIfInBounds_toArray, List.set_cons_zero, List.set_cons_succ]
          refine' wpAnyK_take (k := 16) (i := 9) ?o9 (by kernel_rfl) (by kernel_rfl) (by kernel_rfl) (by kernel_rfl) (by kernel_rfl) ?q9 hHeld ?hw9 ?hy9 ?_
          case o9 => (simp only [List.getElem?_toArray, List.getElem?_cons_succ, List.getElem?_cons_zero]; rfl)
          case q9 => exact fun _ _ _ h => h
          case hw9 => rfl
          case hy9 => (intro w hSw; (try unfold Ad15 at hSw); (try dsimp only at hSw); go_simp; try (with_reducible rfl))
          simp only [Act.put, List.setIfInBounds_toArray, List.set_cons_zero, List.set_cons_succ]
          refine' wpAnyK_take (k := 16) (i := 12) ?o12 (by kernel_rfl) (by kernel_rfl) (by kernel_rfl) (by kernel_rfl) (by kernel_rfl) ?q12 hHeld ?hw12 ?hy12 ?_
          case o12 => (simp only [List.getElem?_toArray, List.getElem?_cons_succ, List.getElem?_cons_zero]; rfl)
          case q12 => exact fun _ _ _ h => h
          case hw12 => rfl
          case hy12 => (intro w hSw; (try unfold Ad15 at hSw); (try dsimp only at hSw); go_simp; try (with_reducible rfl))
          simp only [Act.put, List.setIfInBounds_toArray, List.set_cons_zero, List.set_cons_succ]
          refine' wpAnyK_step (k := 16) (i := 10) (by kernel_rfl) ?o10 ?hw10 ?_
          case o10 => (simp only [List.getElem?_toArray, List.getElem?_cons_succ, List.getElem?_cons_zero]; rfl)
          case hw10 => rfl
          intro KK hKK
          go_simp
          clear hHeld
          refine hKK.out _ _ ⟨d43, d53⟩ (fun hHeld => ?_)
          clear hKK KK
          try simp only [Act.put, List.setIfInBounds_toArray, List.set_cons_zero, List.set_cons_succ]
          refine' wpAnyK_step (k := 16) (i := 11) (by kernel_rfl) ?o11 ?hw11 ?_
          case o11 => (simp only [List.getElem?_toArray, List.getElem?_cons_succ, List.getElem?_cons_zero]; rfl)
          case hw11 => rfl
          intro KK hKK
          go_simp
          clear hHeld
          refine hKK.out _ _ ⟨d44, d54⟩ (fun hHeld => ?_)
          clear hKK KK
          try simp only [Act.put, List.setIfInBounds_toArray, List.set_cons_zero, List.set_cons_succ]
          refine' wpAnyK_step (k := 16) (i := 13) (by kernel_rfl) ?o13 ?hw13 ?_
          case o13 => (simp only [List.getElem?_toArray, List.getElem?_cons_succ, List.getElem?_cons_zero]; rfl)
          case hw13 => rfl
          intro KK hKK
          go_simp
          clear hHeld
          refine hKK.out _ _ ⟨d45, d55⟩ (fun hHeld => ?_)
          clear hKK KK
          try simp only [Act.put, List.setIfInBounds_toArray, List.set_cons_zero, List.set_cons_succ]
          refine' wpAnyK_step (k := 16) (i := 14) (by kernel_rfl) ?o14 ?hw14 ?_
          case o14 => (simp only [List.getElem?_toArray, List.getElem?_cons_succ, List.getElem?_cons_zero]; rfl)
          case hw14 => rfl
          intro KK hKK
          go_simp
          clear hHeld
          refine hKK.out _ _ ⟨d45, d55⟩ (fun hHeld => ?_)
          clear hKK KK
          try simp only [Act.put, List.setIfInBounds_toArray, List.set_cons_zero, List.set_cons_succ]
          refine' wpAnyK_step (k := 16) (i := 15) (by kernel_rfl) ?o15 ?hw15 ?_
          case o15 => (simp only [List.getElem?_toArray, List.getElem?_cons_succ, List.getElem?_cons_zero]; rfl)
          case hw15 => rfl
          intro KK hKK
          go_simp
          clear hHeld
          refine hKK.out _ _ ⟨d45, d55⟩ (fun hHeld => ?_)
          clear hKK KK
          try simp only [Act.put, List.setIfInBounds_toArray, List.set_cons_zero, List.set_cons_succ]
          refine wpAnyK_cut (by kernel_rfl) (by simp only [List.getElem?_toArray, List.getElem?_cons_succ, List.getElem?_cons_zero]; rfl) (by kernel_rfl) (by kernel_rfl) (by rfl) ?_
          clear hHeld
          go_simp
          clear d4 d5 d43 d53 d44 d54 d45 d55 z45 hrun4' hrun5 hsl hsl1
          obtain ⟨hw6, g6, R6⟩ := G6.out
          rw [← hw6]
          obtain ⟨wa, ewa⟩ : ∃ wa, w6 = wa := ⟨_, rfl⟩
          rw [ewa] at g6 R6 hw6
          rw [ewa]
          obtain ⟨m1, hm1⟩ : ∃ m1 : RM, { m with ov := Value.slice A5 (no + 1) c5, oe := m.oe.take i ++ newOE s.tr :: m.oe.drop i } = m1 := ⟨_, rfl⟩
          obtain ⟨G1, hG1⟩ : ∃ G1 : GSt, { G with op := G.op.take i ++ ⟨s.tr, [], 0⟩ :: G.op.drop i } = G1 := ⟨_, rfl⟩
          obtain ⟨e1, he1⟩ : ∃ e1, newOE s.tr = e1 := ⟨_, rfl⟩
          obtain ⟨n1, hn1⟩ : ∃ n1, no + 1 = n1 := ⟨_, rfl⟩
          rw [hm1, hG1] at R6
          have fs : FrK w5i wa (Kis F) := by rw [hw6]; exact FrK.set w5i F 4 _
          have RA : Hid (Rga base wa K1 Z F G1 m1) := Lib.hid R6
          have GA : Hid (Gro w wa K K1 Z Z) := Lib.hid (GZ.out.trans g6)
          have BA : Hid (Bk wa r 40 (spC s A n c)) := Lib.hid (fs.bk (F6.out.1.bk BZ.out fun e => HRK.out r e rfl) fun e => ne_of_type (F6.out.1.bk BZ.out fun e => HRK.out r e rfl) F6.out.2 (by decide) (show r = F from e))
          have TA : Hid (RbT wa wa.heap.size A s.tags) := Lib.hid (rdFr HA.out.1 GA.out.fr HAP.out)
          have hlt : (m.oe.take i).length = i := by rw [List.length_take, HV0.out.2]; omega
          have HE : Hid (m1.oe[i]? = some e1 ∧ m1.oe.length = n1 ∧ e1.t = s.tr ∧ e1.l.length ≤ 32) := Lib.hid ⟨by rw [← hm1, ← he1]; show (m.oe.take i ++ newOE s.tr :: m.oe.drop i)[i]? = _; rw [List.getElem?_append_right (by omega), hlt, Nat.sub_self]; rfl, by rw [← hm1, ← hn1]; show (m.oe.take i ++ newOE s.tr :: m.oe.drop i).length = _; rw [List.length_append, List.length_cons, hlt, List.length_drop, HV0.out.2]; omega, by rw [← he1]; rfl, by rw [← he1]; simp [newOE]⟩
          have hput := putIn_at (x := ⟨s.tr, G.lst s, G.now⟩) (l := G.op) (i := i) (fun j' z hj hz => HPOS.out j' z hj hz) (by have := H3.out.oN; have := HV0.out.2; omega) (fun z hz => HNE.out z hz)
          have hput0 := putIn_at (x := ⟨s.tr, [], 0⟩) (l := G.op) (i := i) (fun j' z hj hz => HPOS.out j' z hj hz) (by have := H3.out.oN; have := HV0.out.2; omega) (fun z hz => HNE.out z hz)
          have OS : Hid (OpS G1.op) := Lib.hid (by rw [← hG1]; show OpS (G.op.take i ++ ⟨s.tr, [], 0⟩ :: G.op.drop i); rw [← hput0]; exact OpS.putIn HOK.out.ops)
          have hlt2 : (G.op.take i).length = i := by rw [List.length_take]; have := H3.out.oN; have := HV0.out.2; omega
          have HPL : Hid (({ G1 with op := G1.op.set i ⟨e1.t, sps e1.l ++ [s], G1.now⟩ } : GSt) = { G with op := GSt.putIn ⟨s.tr, G.lst s, G.now⟩ G.op } ∧ sps e1.l ++ [s] = G.lst s) := by
            have h8 : sps e1.l ++ [s] = G.lst s := by
              unfold GSt.lst
              rw [get_none_at HOK.out.ops (fun j' z hj hz => HPOS.out j' z hj hz) (fun z hz => HNE.out z hz), ← he1]
              rfl
            refine Lib.hid ⟨?_, h8⟩
            rw [← hG1, h8, show e1.t = s.tr from HE.out.2.2.1, hput]
            show ({ G with op := (G.op.take i ++ ⟨s.tr, [], 0⟩ :: G.op.drop i).set i ⟨s.tr, G.lst s, G.now⟩ } : GSt) = _
            rw [List.set_append_right _ _ (by omega), hlt2, Nat.sub_self]
            rfl
          have HRK : Hid (∀ q, K1 q → q ≠ r) := Lib.hid fun q hq e => (g6.kn q hq).elim (fun e2 => HRK.out q e2 e) fun e2 => by have := BZ.out.lt; omega
          clear hput hput0 hlt hlt2 fs hw6 g6 R6 hn1 he1 hG1 hm1 ewa
          have hbn : ∃ b cc, m1.ov = .slice (some ⟨b, 0, none⟩) n1 cc := by
            obtain ⟨g, cap, hv3, -, -⟩ := RA.out.o.form (by have := HE.out.2.1; have := (List.getElem?_eq_some_iff.1 HE.out.1).1; omega)
            exact ⟨g, cap, by rw [hv3, HE.out.2.1]⟩
          obtain ⟨b, cc, hv1⟩ := hbn
          have hi1 : i < n1 := by have := HE.out.2.1; have := (List.getElem?_eq_some_iff.1 HE.out.1).1; omega
          have hi1' : (i : Int) < (n1 : Int) := by omega
          obtain ⟨lx, hlx⟩ : ∃ lx, e1.l.length = lx := ⟨_, rfl⟩
          have hRd := RA.out.below (Below.refl _ wa).drew
          have hBd : Bk wa.drew r 40 (spC s A n c) := BA.out
          have S0 := hRd.ad15 hv1 HE.out.1 hlx hBd
          have CP := Lib.hid (rCopy (c := c) s wa.drew (show RbT wa.drew wa.drew.heap.size A s.tags from TA.out) HN.out.1 (Nat.le_refl _) (by have := HN.out.2; omega))
          have HV1 := Lib.hid (And.intro hv1 hlx)
          have HRD := Lib.hid hRd
          have HBD := Lib.hid hBd
          clear hv1 hlx hRd hBd
          go_wp2_with fail
          refine wp_region_K (k := 19) (S := Ad15 F r b i lx n1 cc e1 s A n c) (by kernel_rfl) S0 (fun hHeld => ?_)
          simp only [List.size_toArray, List.length_cons, List.length_nil, Nat.zero_add, Nat.reduceAdd]
          refine' wpAnyK_take (k := 19) (i := 0) ?o0 (by kernel_rfl) (by kernel_rfl) (by kernel_rfl) (by kernel_rfl) (by kernel_rfl) ?q0 hHeld ?hw0 ?hy0 ?_
          case o0 => (simp only [List.getElem?_toArray, List.getElem?_cons_succ, List.getElem?_cons_zero]; rfl)
          case q0 => exact fun _ _ _ h => h
          case hw0 => rfl
          case hy0 => (intro w hSw; (try unfold Ad15 at hSw); (try dsimp only at hSw); go_simp; try (with_reducible rfl))
          simp only [Act.put, List.setIfInBounds_toArray, List.set_cons_zero, List.set_cons_succ]
          refine' wpAnyK_take (k := 19) (i := 1) ?o1 (by kernel_rfl) (by kernel_rfl) (by kernel_rfl) (by kernel_rfl) (by kernel_rfl) ?q1 hHeld ?hw1 ?hy1 ?_
          case o1 => (simp only [List.getElem?_toArray, List.getElem?_cons_succ, List.getElem?_cons_zero]; rfl)
          case q1 => exact fun _ _ _ h => h
          case hw1 => rfl
          case hy1 => (intro w hSw; (try unfold Ad15 at hSw); (try dsimp only at hSw); go_simp; try (with_reducible rfl))
          simp only [Act.put, List.setIfInBounds_toArray, List.set_cons_zero, List.set_cons_succ]
          refine' wpAnyK_take (k := 19) (i := 2) ?o2 (by kernel_rfl) (by kernel_rfl) (by kernel_rfl) (by kernel_rfl) (by kernel_rfl) ?q2 hHeld ?hw2 ?hy2 ?_
          case o2 => (simp only [List.getElem?_toArray, List.getElem?_cons_succ, List.getElem?_cons_zero]; rfl)
          case q2 => exact fun _ _ _ h => h
          case hw2 => rfl
          case hy2 => (intro w hSw; (try unfold Ad15 at hSw); (try dsimp only at hSw); go_simp; try (with_reducible rfl))
          simp only [Act.put, List.setIfInBounds_toArray, List.set_cons_zero, List.set_cons_succ]
          refine' wpAnyK_take (k := 19) (i := 3) ?o3 (by kernel_rfl) (by kernel_rfl) (by kernel_rfl) (by kernel_rfl) (by kernel_rfl) ?q3 hHeld ?hw3 ?hy3 ?_
          case o3 => (simp only [List.getElem?_toArray, List.getElem?_cons_succ, List.getElem?_cons_zero]; rfl)
          case q3 => exact fun _ _ _ h => h
          case hw3 => rfl
          case hy3 => (intro w hSw; (try unfold Ad15 at hSw); (try dsimp only at hSw); go_simp; try (with_reducible rfl))
          simp only [Act.put, List.setIfInBounds_toArray, List.set_cons_zero, List.set_cons_succ]
          refine' wpAnyK_take (k := 19) (i := 4) ?o4 (by kernel_rfl) (by kernel_rfl) (by kernel_rfl) (by kernel_rfl) (by kernel_rfl) ?q4 hHeld ?hw4 ?hy4 ?_
          case o4 => (simp only [List.getElem?_toArray, List.getElem?_cons_succ, List.getElem?_cons_zero]; rfl)
          case q4 => exact fun _ _ _ h => h
          case hw4 => rfl
          case hy4 => (intro w hSw; (try unfold Ad15 at hSw); (try dsimp only at hSw); go_simp; try (with_reducible rfl))
          simp only [Act.put, List.setIfInBounds_toArray, List.set_cons_zero, List.set_cons_succ]
          refine' wpAnyK_take (k := 19) (i := 5) ?o5 (by kernel_rfl) (by kernel_rfl) (by kernel_rfl) (by kernel_rfl) (by kernel_rfl) ?q5 hHeld ?hw5 ?hy5 ?_
          case o5 => (simp only [List.getElem?_toArray, List.getElem?_cons_succ, List.getElem?_cons_zero]; rfl)
          case q5 => exact fun _ _ _ h => h
          case hw5 => rfl
          case hy5 => (intro w hSw; (try unfold Ad15 at hSw); (try dsimp only at hSw); go_simp; try (with_reducible rfl))
          simp only [Act.put, List.setIfInBounds_toArray, List.set_cons_zero, List.set_cons_succ]
          refine' wpAnyK_take (k := 19) (i := 6) ?o6 (by kernel_rfl) (by kernel_rfl) (by kernel_rfl) (by kernel_rfl) (by kernel_rfl) ?q6 hHeld ?hw6 ?hy6 ?_
          case o6 => (simp only [List.getElem?_toArray, List.getElem?_cons_succ, List.getElem?_cons_zero]; rfl)
          case q6 => exact fun _ _ _ h => h
          case hw6 => rfl
          case hy6 => (intro w hSw; (try unfold Ad15 at hSw); (try dsimp only at hSw); go_simp; try (with_reducible rfl))
          simp only [Act.put, List.setIfInBounds_toArray, List.set_cons_zero, List.set_cons_succ]
          refine' wpAnyK_take (k := 19) (i := 7) ?o7 (by kernel_rfl) (by kernel_rfl) (by kernel_rfl) (by kernel_rfl) (by kernel_rfl) ?q7 hHeld ?hw7 ?hy7 ?_
          case o7 => (simp only [List.getElem?_toArray, List.getElem?_cons_succ, List.getElem?_cons_zero]; rfl)
          case q7 => exact fun _ _ _ h => h
          case hw7 => rfl
          case hy7 => (intro w hSw; (try unfold Ad15 at hSw); (try dsimp only at hSw); go_simp; try (with_reducible rfl))
          simp only [Act.put, List.setIfInBounds_toArray, List.set_cons_zero, List.set_cons_succ]
          refine' wpAnyK_take (k := 19) (i := 8) ?o8 (by kernel_rfl) (by kernel_rfl) (by kernel_rfl) (by kernel_rfl) (by kernel_rfl) ?q8 hHeld ?hw8 ?hy8 ?_
          case o8 => (simp only [List.getElem?_toArray, List.getElem?_cons_succ, List.getElem?_cons_zero]; rfl)
          case q8 => exact fun _ _ _ h => h
          case hw8 => rfl
          case hy8 => (intro w hSw; (try unfold Ad15 at hSw); (try dsimp only at hSw); go_simp; try (with_reducible rfl))
          simp only [Act.put, List.setIfInBounds_toArray, List.set_cons_zero, List.set_cons_succ]
          refine' wpAnyK_take (k := 19) (i := 9) ?o9 (by kernel_rfl) (by kernel_rfl) (by kernel_rfl) (by kernel_rfl) (by kernel_rfl) ?q9 hHeld ?hw9 ?hy9 ?_
          case o9 => (simp only [List.getElem?_toArray, List.getElem?_cons_succ, List.getElem?_cons_zero]; rfl)
          case q9 => exact fun _ _ _ h => h
          case hw9 => rfl
          case hy9 => (intro w hSw; (try unfold Ad15 at hSw); (try dsimp only at hSw); go_simp; try (with_reducible rfl))
          simp only [Act.put, List.setIfInBounds_toArray, List.set_cons_zero, List.set_cons_succ]
          refine' wpAnyK_take (k := 19) (i := 10) ?o10 (by kernel_rfl) (by kernel_rfl) (by kernel_rfl) (by kernel_rfl) (by kernel_rfl) ?q10 hHeld ?hw10 ?hy10 ?_
          case o10 => (simp only [List.getElem?_toArray, List.getElem?_cons_succ, List.getElem?_cons_zero]; rfl)
          case q10 => exact fun _ _ _ h => h
          case hw10 => rfl
          case hy10 => (intro w hSw; (try unfold Ad15 at hSw); (try dsimp only at hSw); go_simp; try (with_reducible rfl))
          simp only [Act.put, List.setIfInBounds_toArray, List.set_cons_zero, List.set_cons_succ]
          refine' wpAnyK_take (k := 19) (i := 11) ?o11 (by kernel_rfl) (by kernel_rfl) (by kernel_rfl) (by kernel_rfl) (by kernel_rfl) ?q11 hHeld ?hw11 ?hy11 ?_
          case o11 => (simp only [List.getElem?_toArray, List.getElem?_cons_succ, List.getElem?_cons_zero]; rfl)
          case q11 => exact fun _ _ _ h => h
          case hw11 => rfl
          case hy11 => (intro w hSw; (try unfold Ad15 at hSw); (try dsimp only at hSw); go_simp; try (with_reducible rfl))
          simp only [Act.put, List.setIfInBounds_toArray, List.set_cons_zero, List.set_cons_succ]
          refine' wpAnyK_take (k := 19) (i := 12) ?o12 (by kernel_rfl) (by kernel_rfl) (by kernel_rfl) (by kernel_rfl) (by kernel_rfl) ?q12 hHeld ?hw12 ?hy12 ?_
          case o12 => (simp only [List.getElem?_toArray, List.getElem?_cons_succ, List.getElem?_cons_zero]; rfl)
          case q12 => exact fun _ _ _ h => h
          case hw12 => rfl
          case hy12 => (intro w hSw; (try unfold Ad15 at hSw); (try dsimp only at hSw); go_simp; try (with_reducible rfl))
          simp only [Act.put, List.setIfInBounds_toArray, List.set_cons_zero, List.set_cons_succ]
          refine' wpAnyK_take (k := 19) (i := 13) ?o13 (by kernel_rfl) (by kernel_rfl) (by kernel_rfl) (by kernel_rfl) (by kernel_rfl) ?q13 hHeld ?hw13 ?hy13 ?_
          case o13 => (simp only [List.getElem?_toArray, List.getElem?_cons_succ, List.getElem?_cons_zero]; rfl)
          case q13 => exact fun _ _ _ h => h
          case hw13 => rfl
          case hy13 => (intro w hSw; (try unfold Ad15 at hSw); (try dsimp only at hSw); go_simp; try (with_reducible rfl))
          simp only [Act.put, List.setIfInBounds_toArray, List.set_cons_zero, List.set_cons_succ]
          refine' wpAnyK_step (k := 19) (i := 14) (by kernel_rfl) ?o14 ?hw14 ?_
          case o14 => (simp only [List.getElem?_toArray, List.getElem?_cons_succ, List.getElem?_cons_zero]; rfl)
          case hw14 => rfl
          intro KK hKK
          go_simp
          refine CP.out.mono ?_
          rintro e w5 ⟨A', c', rfl, hr5, hb5, hc5, hlo5, -⟩
          obtain ⟨A7, c7, w7, hrun7, f7, k7, ho7, k8, ho8, K9, Z9, g9, R9⟩ := HRD.out.setJ (c' := c') OS.out HV1.out.1 HE.out.2.1 HE.out.1 HV1.out.2 (by have := HE.out.2.2.2; have := HV1.out.2; omega) hb5 hr5 HN.out.1 (by have := HN.out.2; omega) hlo5
          have hR5 := HRD.out.below hb5
          have hB5 := HBD.out.below hb5 HBD.out.lt
          have J5 := hR5.ad15 HV1.out.1 HE.out.1 HV1.out.2 hB5
          have b6 : Below w5.heap.size w5 (w5.alloc (.cells (spC s A' n c') 40)) := (Below.refl _ w5).alloc (Nat.le_refl _) _
          have hB6 := hB5.below b6 hB5.lt
          have J6 := (hR5.below b6).ad15 HV1.out.1 HE.out.1 HV1.out.2 hB6
          have hB7 : Bk w7 r 40 (spC s A n c) := f7.bk HBD.out (fun e2 => by
            exact HRK.out r (HRD.out.kR e1 (List.mem_of_getElem? HE.out.1) r e2) rfl)
          have J7 : Ad15 F r b i lx n1 cc e1 s A n c w7 := ad15_of k7 ho7 HV1.out.1 HE.out.2.1 HE.out.1 HV1.out.2 hB7
          have hv1 := HV1.out.1
          have hn1 := HE.out.2.1
          rw [hv1, hn1] at ho7 ho8
          have q7 : w7.cell? ⟨b, i * 4 + 2, none⟩ = some (.slice e1.A lx e1.c) := J7.2.1
          have z7 := ho7.frozenAt (i * 4 + 2)
          have F9 := Lib.hid (And.intro g9 R9)
          have K8 := Lib.hid k8
          have O8 := Lib.hid ho8
          clear hr5 hb5 hc5 hlo5 f7 k7 ho7 k8 ho8 g9 R9 hR5 hB5 b6 hB6 hB7 hv1 hn1
          go_wp2_with fail
          clear hHeld
          refine hKK.out _ _ J5 (fun hHeld => ?_)
          clear hKK KK
          try simp only [Act.put, List.setIfInBounds_toArray, List.set_cons_zero, List.set_cons_succ]
          refine' wpAnyK_step (k := 19) (i := 15) (by kernel_rfl) ?o15 ?hw15 ?_
          case o15 => (simp only [List.getElem?_toArray, List.getElem?_cons_succ, List.getElem?_cons_zero]; rfl)
          case hw15 => rfl
          intro KK hKK
          go_simp
          clear hHeld
          refine hKK.out _ _ J6 (fun hHeld => ?_)
          clear hKK KK
          try simp only [Act.put, List.setIfInBounds_toArray, List.set_cons_zero, List.set_cons_succ]
          refine' wpAnyK_step (k := 19) (i := 16) (by kernel_rfl) ?o16 ?hw16 ?_
          case o16 => (simp only [List.getElem?_toArray, List.getElem?_cons_succ, List.getElem?_cons_zero]; rfl)
          case hw16 => rfl
          intro KK hKK
          go_simp
          clear hHeld
          refine hKK.out _ _ J7 (fun hHeld => ?_)
          clear hKK KK
          try simp only [Act.put, List.setIfInBounds_toArray, List.set_cons_zero, List.set_cons_succ]
          refine' wpAnyK_step (k := 19) (i := 17) (by kernel_rfl) ?o17 ?hw17 ?_
          case o17 => (simp only [List.getElem?_toArray, List.getElem?_cons_succ, List.getElem?_cons_zero]; rfl)
          case hw17 => rfl
          intro KK hKK
          go_simp
          clear hHeld
          refine hKK.out _ _ J7 (fun hHeld => ?_)
          clear hKK KK
          try simp only [Act.put, List.setIfInBounds_toArray, List.set_cons_zero, List.set_cons_succ]
          refine' wpAnyK_step (k := 19) (i := 18) (by kernel_rfl) ?o18 ?hw18 ?_
          case o18 => (simp only [List.getElem?_toArray, List.getElem?_cons_succ, List.getElem?_cons_zero]; rfl)
          case hw18 => rfl
          intro KK hKK
          go_simp
          clear hHeld
          refine hKK.out _ _ J7 (fun hHeld => ?_)
          clear hKK KK
          try simp only [Act.put, List.setIfInBounds_toArray, List.set_cons_zero, List.set_cons_succ]
          refine wpAnyK_cut (by kernel_rfl) (by simp only [List.getElem?_toArray, List.getElem?_cons_succ, List.getElem?_cons_zero]; rfl) (by kernel_rfl) (by kernel_rfl) (by rfl) ?_
          clear hHeld
          go_simp
          clear hrun7 J5 J6 J7 q7 z7 CP S0
          obtain ⟨w8, e8⟩ : ∃ w8, w7.setCell ⟨b, i * 4 + 2, none⟩ (.slice A7 (lx + 1) c7) = w8 := ⟨_, rfl⟩
          rw [e8] at F9 K8 O8 ⊢
          clear e8
          have q8 : ∃ u, w8.cell? ⟨b, i * 4 + 3, none⟩ = some u := by
            rw [O8.out.cellAt (i * 4 + 3) (by omega)]
            exact ⟨_, List.getElem?_eq_getElem (by rw [flatR_length oeC_length, List.length_set]; have := HE.out.2.1; omega)⟩
          obtain ⟨u8, q8⟩ := q8
          have z8 := O8.out.frozenAt (i * 4 + 3)
          have c48 : w8.drew.cell? ⟨F, 4, none⟩ = some (.slice (some ⟨b, 0, none⟩) n1 cc) := by
            rw [show w8.drew.cell? ⟨F, 4, none⟩ = w8.cell? ⟨F, 4, none⟩ from rfl, K8.out.cell 4, ← HV1.out.1]
            rfl
          have c38 : w8.drew.cell? ⟨F, 3, none⟩ = some (.int .i64 G1.now) := (K8.out.cell 3).trans rfl
          go_wp2_with fail
          refine wp_region_K (k := 11) (S := fun w' => w'.cell? ⟨F, 4, none⟩ = some (.slice (some ⟨b, 0, none⟩) n1 cc) ∧ w'.cell? ⟨F, 3, none⟩ = some (.int .i64 G1.now)) (by kernel_rfl) ⟨c48, c38⟩ (fun hHeld => ?_)
          simp only [List.size_toArray, List.length_cons, List.length_nil, Nat.zero_add, Nat.reduceAdd]
          refine' wpAnyK_take (k := 11) (i := 0) ?o0 (by kernel_rfl) (by kernel_rfl) (by kernel_rfl) (by kernel_rfl) (by kernel_rfl) ?q0 hHeld ?hw0 ?hy0 ?_
          case o0 => (simp only [List.getElem?_toArray, List.getElem?_cons_succ, List.getElem?_cons_zero]; rfl)
          case q0 => exact fun _ _ _ h => h
          case hw0 => rfl
          case hy0 => (intro w hSw; (try unfold Ad15 at hSw); (try dsimp only at hSw); go_simp; try (with_reducible rfl))
          simp only [Act.put, List.setIfInBounds_toArray, List.set_cons_zero, List.set_cons_succ]
          refine' wpAnyK_take (k := 11) (i := 1) ?o1 (by kernel_rfl) (by kernel_rfl) (by kernel_rfl) (by kernel_rfl) (by kernel_rfl) ?q1 hHeld ?hw1 ?hy1 ?_
          case o1 => (simp only [List.getElem?_toArray, List.getElem?_cons_succ, List.getElem?_cons_zero]; rfl)
          case q1 => exact fun _ _ _ h => h
          case hw1 => rfl
          case hy1 => (intro w hSw; (try unfold Ad15 at hSw); (try dsimp only at hSw); go_simp; try (with_reducible rfl))
          simp only [Act.put, List.setIfInBounds_toArray, List.set_cons_zero, List.set_cons_succ]
          refine' wpAnyK_take (k := 11) (i := 2) ?o2 (by kernel_rfl) (by kernel_rfl) (by kernel_rfl) (by kernel_rfl) (by kernel_rfl) ?q2 hHeld ?hw2 ?hy2 ?_
          case o2 => (simp only [List.getElem?_toArray, List.getElem?_cons_succ, List.getElem?_cons_zero]; rfl)
          case q2 => exact fun _ _ _ h => h
          case hw2 => rfl
          case hy2 => (intro w hSw; (try unfold Ad15 at hSw); (try dsimp only at hSw); go_simp; try (with_reducible rfl))
          simp only [Act.put, List.setIfInBounds_toArray, List.set_cons_zero, List.set_cons_succ]
          refine' wpAnyK_take (k := 11) (i := 3) ?o3 (by kernel_rfl) (by kernel_rfl) (by kernel_rfl) (by kernel_rfl) (by kernel_rfl) ?q3 hHeld ?hw3 ?hy3 ?_
          case o3 => (simp only [List.getElem?_toArray, List.getElem?_cons_succ, List.getElem?_cons_zero]; rfl)
          case q3 => exact fun _ _ _ h => h
          case hw3 => rfl
          case hy3 => (intro w hSw; (try unfold Ad15 at hSw); (try dsimp only at hSw); go_simp; try (with_reducible rfl))
          simp only [Act.put, List.setIfInBounds_toArray, List.set_cons_zero, List.set_cons_succ]
          refine' wpAnyK_take (k := 11) (i := 4) ?o4 (by kernel_rfl) (by kernel_rfl) (by kernel_rfl) (by kernel_rfl) (by kernel_rfl) ?q4 hHeld ?hw4 ?hy4 ?_
          case o4 => (simp only [List.getElem?_toArray, List.getElem?_cons_succ, List.getElem?_cons_zero]; rfl)
          case q4 => exact fun _ _ _ h => h
          case hw4 => rfl
          case hy4 => (intro w hSw; (try unfold Ad15 at hSw); (try dsimp only at hSw); go_simp; try (with_reducible rfl))
          simp only [Act.put, List.setIfInBounds_toArray, List.set_cons_zero, List.set_cons_succ]
          refine' wpAnyK_take (k := 11) (i := 5) ?o5 (by kernel_rfl) (by kernel_rfl) (by kernel_rfl) (by kernel_rfl) (by kernel_rfl) ?q5 hHeld ?hw5 ?hy5 ?_
          case o5 => (simp only [List.getElem?_toArray, List.getElem?_cons_succ, List.getElem?_cons_zero]; rfl)
          case q5 => exact fun _ _ _ h => h
          case hw5 => rfl
          case hy5 => (intro w hSw; (try unfold Ad15 at hSw); (try dsimp only at hSw); go_simp; try (with_reducible rfl))
          simp only [Act.put, List.setIfInBounds_toArray, List.set_cons_zero, List.set_cons_succ]
          refine' wpAnyK_take (k := 11) (i := 6) ?o6 (by kernel_rfl) (by kernel_rfl) (by kernel_rfl) (by kernel_rfl) (by kernel_rfl) ?q6 hHeld ?hw6 ?hy6 ?_
          case o6 => (simp only [List.getElem?_toArray, List.getElem?_cons_succ, List.getElem?_cons_zero]; rfl)
          case q6 => exact fun _ _ _ h => h
          case hw6 => rfl
          case hy6 => (intro w hSw; (try unfold Ad15 at hSw); (try dsimp only at hSw); go_simp; try (with_reducible rfl))
          simp only [Act.put, List.setIfInBounds_toArray, List.set_cons_zero, List.set_cons_succ]
          refine' wpAnyK_take (k := 11) (i := 7) ?o7 (by kernel_rfl) (by kernel_rfl) (by kernel_rfl) (by kernel_rfl) (by kernel_rfl) ?q7 hHeld ?hw7 ?hy7 ?_
          case o7 => (simp only [List.getElem?_toArray, List.getElem?_cons_succ, List.getElem?_cons_zero]; rfl)
          case q7 => exact fun _ _ _ h => h
          case hw7 => rfl
          case hy7 => (intro w hSw; (try unfold Ad15 at hSw); (try dsimp only at hSw); go_simp; try (with_reducible rfl))
          simp only [Act.put, List.setIfInBounds_toArray, List.set_cons_zero, List.set_cons_succ]
          refine' wpAnyK_take (k := 11) (i := 8) ?o8 (by kernel_rfl) (by kernel_rfl) (by kernel_rfl) (by kernel_rfl) (by kernel_rfl) ?q8 hHeld ?hw8 ?hy8 ?_
          case o8 => (simp only [List.getElem?_toArray, List.getElem?_cons_succ, List.getElem?_cons_zero]; rfl)
          case q8 => exact fun _ _ _ h => h
          case hw8 => rfl
          case hy8 => (intro w hSw; (try unfold Ad15 at hSw); (try dsimp only at hSw); go_simp; try (with_reducible rfl))
          simp only [Act.put, List.setIfInBounds_toArray, List.set_cons_zero, List.set_cons_succ]
          refine' wpAnyK_step (k := 11) (i := 9) (by kernel_rfl) ?o9 ?hw9 ?_
          case o9 => (simp only [List.getElem?_toArray, List.getElem?_cons_succ, List.getElem?_cons_zero]; rfl)
          case hw9 => rfl
          intro KK hKK
          go_simp
          clear hHeld
          refine hKK.out _ _ ⟨c48, c38⟩ (fun hHeld => ?_)
          clear hKK KK
          try simp only [Act.put, List.setIfInBounds_toArray, List.set_cons_zero, List.set_cons_succ]
          refine' wpAnyK_step (k := 11) (i := 10) (by kernel_rfl) ?o10 ?hw10 ?_
          case o10 => (simp only [List.getElem?_toArray, List.getElem?_cons_succ, List.getElem?_cons_zero]; rfl)
          case hw10 => rfl
          intro KK hKK
          go_simp
          clear hHeld
          refine hKK.out _ _ ⟨c48, c38⟩ (fun hHeld => ?_)
          clear hKK KK
          try simp only [Act.put, List.setIfInBounds_toArray, List.set_cons_zero, List.set_cons_succ]
          refine wpAnyK_cut (by kernel_rfl) (by simp only [List.getElem?_toArray, List.getElem?_cons_succ, List.getElem?_cons_zero]; rfl) (by kernel_rfl) (by kernel_rfl) (by rfl) ?_
          clear hHeld
          go_simp
          clear c48 c38 q8 z8 K8 O8
          obtain ⟨w9, e9⟩ : ∃ w9, w8.setCell ⟨b, i * 4 + 3, none⟩ (.int .i64 G1.now) = w9 := ⟨_, rfl⟩
          have e9' : w8.drew.setCell ⟨b, i * 4 + 3, none⟩ (.int .i64 G1.now) = w9.drew := by rw [← e9]; rfl
          rw [e9] at F9
          try rw [e9]
          try rw [e9']
          clear e9 e9'
          obtain ⟨m9, hm9⟩ : ∃ m9 : RM, { m1 with oe := m1.oe.set i (nxE e1 s A' n c' A7 c7 G1.now) } = m9 := ⟨_, rfl⟩
          have hi9 : m9.oe[i]? = some (nxE e1 s A' n c' A7 c7 G1.now) := by
            rw [← hm9]
            exact List.getElem?_set_self (by have := HE.out.2.1; omega)
          have hv9 : m9.ov = .slice (some ⟨b, 0, none⟩) n1 cc := by rw [← hm9]; exact HV1.out.1
          have hl9 : (nxE e1 s A' n c' A7 c7 G1.now).l.length = lx + 1 := by
            show (e1.l ++ [_]).length = _
            rw [List.length_append, HV1.out.2]
            rfl
          obtain ⟨g9, R9⟩ := F9.out
          rw [hm9, HPL.out.1] at R9
          have R10 := R9
          have HG10 := Lib.hid ((GA.out.trans (Gro.refl (FrK.refl wa K1).drew)).trans g9)
          have c410 : w9.cell? ⟨F, 4, none⟩ = some (.slice (some ⟨b, 0, none⟩) n1 cc) := by rw [R9.blk.cell 4, ← hv9]; rfl
          have c210 : w9.cell? ⟨F, 2, none⟩ = some (.int .i64 G.cap) := (R9.blk.cell 2).trans rfl
          have x10 : w9.cell? ⟨b, i * 4 + 2, none⟩ = some (.slice A7 (lx + 1) c7) := by
            have h3 := R9.o
            have h4 : m9.oe.length = n1 := by rw [← hm9]; exact (List.length_set ..).trans HE.out.2.1
            rw [hv9, h4] at h3
            rw [h3.cellAt (i * 4 + 2) (by omega), flatR_get oeC_length hi9 2 (by omega), ← hl9]
            rfl
          have hll : (G.lst s).length = lx + 1 := by rw [← HPL.out.2, List.length_append, sps_length, HV1.out.2]; rfl
          have hadd := GSt.add_eq G s
          rw [if_neg (by rw [HQ.out]; decide), if_neg HNIN.out, hll] at hadd
          have HR10 := Lib.hid R10
          have HI9 := Lib.hid (And.intro hi9 (And.intro hl9 hm9))
          have HAD := Lib.hid hadd
          clear g9 R9 R10 hi9 hv9 hl9 hm9 hll hadd F9
          by_cases hfull : G.cap ≤ ((lx + 1 : Nat) : Int)
          · have hfull' : G.cap ≤ (lx : Int) + 1 := by simpa using hfull
            have hfd : decide (G.cap ≤ (lx : Int) + 1) = true := by simpa using hfull
            have hfd2 : decide ((lx : Int) + 1 ≥ G.cap) = true := by simpa using hfull
            have hadd := HAD.out
            rw [if_pos hfull] at hadd
            have HAD2 := Lib.hid hadd
            clear hadd hfull
            go_wp2_with fail
            go_quiet (fail)
            have hR11 := HR10.out.below (below_drewN (Below.refl _ w9) (1 + nq))
            have CC := Lib.hid (rgClose hR11 (OpS.putIn HOK.out.ops) HI9.out.1 (by rw [hR11.ceN]; have := HOK.out.num; show G.cl.length ≤ _; omega) (by show G.all.length ≤ _; have := HALL.out; omega) (by rw [hR11.oN]; have := putIn_length ⟨s.tr, G.lst s, G.now⟩ G.op; have := HOK.out.num; show (GSt.putIn _ G.op).length ≤ _; omega) (by rw [HI9.out.2.1]; have := HE.out.2.2.2; have := HV1.out.2; omega) (fun x hx => by
              have h3 := (hR11.el _ (List.mem_of_getElem? HI9.out.1) x hx).ok.len
              have h4 : x.s ∈ G.lst s := by
                rw [← HPL.out.2]
                have h5 : x.s ∈ (nxE e1 s A' n c' A7 c7 G1.now).l.map (·.s) := List.mem_map.2 ⟨x, hx, rfl⟩
                have h6 : (nxE e1 s A' n c' A7 c7 G1.now).l.map (·.s) = sps e1.l ++ [s] := by simp [nxE, sps]
                rw [h6] at h5
                exact h5
              have h7 := chk_tags ((HOK.out.lst HQ.out).2.1 x.s h4).1
              omega))
            clear c410 c210 x10
            go_wp2_with fail
            refine CC.out.mono ?_
            rintro e w12 ⟨rfl, K12, Z12, m12, g12, R12⟩
            have HF := Lib.hid (And.intro g12 R12)
            clear g12 R12 CC hR11
            go_wp2_with fail
            go_ret2
            unfold RAddP
            rw [HAD2.out]
            refine ⟨rfl, K12, Z12, m12, (HG10.out.trans (Gro.refl (FrK.of_below (below_drewN (Below.refl _ w9) (1 + nq)) (Nat.le_refl _) K9))).trans HF.out.1, ?_⟩
            have h8 : ({ G with op := GSt.putIn ⟨s.tr, G.lst s, G.now⟩ G.op } : GSt).close (nxE e1 s A' n c' A7 c7 G1.now).t (sps (nxE e1 s A' n c' A7 c7 G1.now).l) = G.close s.tr (G.lst s) := by
              have h9 : (nxE e1 s A' n c' A7 c7 G1.now).t = s.tr := HE.out.2.2.1
              have h10 : sps (nxE e1 s A' n c' A7 c7 G1.now).l = G.lst s := by
                rw [← HPL.out.2]
                simp [nxE, sps]
              rw [h9, h10]
              unfold GSt.close
              simp only
              rw [delOf_putIn ⟨s.tr, G.lst s, G.now⟩ G.op]
            rw [← h8]
            exact HF.out.2
          · have hfull' : ¬G.cap ≤ (lx : Int) + 1 := by simpa using hfull
            have hfd : decide (G.cap ≤ (lx : Int) + 1) = false := by simpa using hfull
            have hfd2 : decide ((lx : Int) + 1 ≥ G.cap) = false := by simpa using hfull
            have hadd := HAD.out
            rw [if_neg hfull] at hadd
            have HAD2 := Lib.hid hadd
            clear hadd hfull
            go_wp2_with fail
            go_quiet (fail)
            clear c410 c210 x10
            go_wp2_with fail
            go_ret2
            unfold RAddP
            rw [HAD2.out]
            exact ⟨rfl, K9, Z9, m9, HG10.out.trans (Gro.refl (FrK.of_below (below_drewN (Below.refl _ w9).drew nq) (Nat.le_refl _) K9)), HR10.out.below (below_drewN (Below.refl _ w9).drew nq)⟩
        · skip
          go_wp2_with fail
          go_quiet (fail)
          clear c4 t4 t5
          obtain ⟨wz, ewz⟩ : ∃ wz, w5.drewN nq = wz := ⟨_, rfl⟩
          have hbz : Below w3.heap.size w3 wz := by rw [← ewz]; exact below_drewN HB5.out nq
          rw [ewz]
          have RZ := Lib.hid (H3.out.below hbz)
          have BZ := Lib.hid (B3.out.below hbz B3.out.lt)
          have GZ : Hid (Gro w wz K K Z Z) := Lib.hid (Gro.refl (FrK.of_below (BB3.out.trans (hbz.mono BB3.out.size)) (Nat.le_refl _) K))
          clear hbz ewz e1 hine e2
          obtain ⟨A0, hA0⟩ : ∃ A0 : Option Addr, some ⟨b, 0, none⟩ = A0 := ⟨_, rfl⟩
          rw [hA0] at HV0
          clear hA0
          obtain ⟨w6, J6⟩ := RZ.out.insJ s.tr HV0.out.1 HV0.out.2 hi (by omega)
          obtain ⟨A2, c2, w2i, A4, c4i, w4, A5, c5, w5i, hrun2, kb2, hrun4, kb4, hrun5, kb5, hw6, f2, f4, f5, K1, g6, R6⟩ := J6
          have hsl : ∀ W, (Instr.slice 70 (.slice A0 no c0) (some (.int .i64 (i : Int))) none none).run Tryz.prog W = .ok (.slice (cutA A0 c0 i 4) (no - i) (c0 - i)) W := fun W => run_slOl W A0 no c0 i hi
          have hsl1 : ∀ W, (Instr.slice 70 (.slice A0 no c0) none (some (.int .i64 (i : Int))) none).run Tryz.prog W = .ok (.slice A0 i c0) W := fun W => run_slOh W A0 no c0 i (by
            obtain ⟨A1, c1, e, h9, -⟩ := own_form RZ.out.o
            rw [HV0.out.1, HV0.out.2] at e
            rw [HV0.out.2] at h9
            cases e
            omega)
          obtain ⟨Ad, hAd⟩ : ∃ Ad, cutA A0 c0 i 4 = Ad := ⟨_, rfl⟩
          rw [hAd] at hsl hrun2
          have cz4 : wz.cell? ⟨F, 4, none⟩ = some (.slice A0 no c0) := by rw [RZ.out.blk.cell 4, ← HV0.out.1]; rfl
          have cz4' : (wz.alloc (.cells #[] 79)).cell? ⟨F, 4, none⟩ = some (.slice A0 no c0) := by rw [Bk.cell (RZ.out.blk.alloc (.cells #[] 79)) 4, ← HV0.out.1]; rfl
          have d4 : w2i.drew.cell? ⟨F, 4, none⟩ = some (.slice A0 no c0) := by
            rw [show w2i.drew.cell? ⟨F, 4, none⟩ = w2i.cell? ⟨F, 4, none⟩ from rfl, kb2.cell 4, ← HV0.out.1]
            rfl
          have B2i : Bk w2i r 40 (spC s A n c) := f2.bk BZ.out fun e => e
          have d5 : (loadK 37 ⟨r, 0, none⟩).run Tryz.prog w2i.drew = .ok (trV s.tr) w2i.drew := ldTrB (o := 0) (a := s.hi) (b := s.lo) (show Bk w2i.drew r _ _ from B2i) rfl rfl
          have b3 : Below w2i.heap.size w2i (w2i.alloc (.cells (newC s.tr) 79)).drew := ((Below.refl _ w2i).alloc (Nat.le_refl _) _).drew
          have d43 : (w2i.alloc (.cells (newC s.tr) 79)).drew.cell? ⟨F, 4, none⟩ = some (.slice A0 no c0) := by
            rw [Bk.cell (kb2.below b3 kb2.lt) 4, ← HV0.out.1]
            rfl
          have d53 : (loadK 37 ⟨r, 0, none⟩).run Tryz.prog (w2i.alloc (.cells (newC s.tr) 79)).drew = .ok (trV s.tr) (w2i.alloc (.cells (newC s.tr) 79)).drew := ldTrB (o := 0) (a := s.hi) (b := s.lo) (B2i.below b3 B2i.lt) rfl rfl
          have B4 : Bk w4 r 40 (spC s A n c) := f4.bk BZ.out fun e => HRK.out r e rfl
          have d44 : w4.cell? ⟨F, 4, none⟩ = some (.slice A0 no c0) := by rw [kb4.cell 4, ← HV0.out.1]; rfl
          have d54 : (loadK 37 ⟨r, 0, none⟩).run Tryz.prog w4 = .ok (trV s.tr) w4 := ldTrB (o := 0) (a := s.hi) (b := s.lo) B4 rfl rfl
          have B5 : Bk w5i r 40 (spC s A n c) := f5.bk BZ.out fun e => HRK.out r e rfl
          have d45 : w5i.cell? ⟨F, 4, none⟩ = some (.slice A0 no c0) := by rw [kb5.cell 4, ← HV0.out.1]; rfl
          have d55 : (loadK 37 ⟨r, 0, none⟩).run Tryz.prog w5i = .ok (trV s.tr) w5i := ldTrB (o := 0) (a := s.hi) (b := s.lo) B5 rfl rfl
          have z45 := kb5.frozen 4
          have G6 := Lib.hid (And.intro hw6 (And.intro g6 R6))
          have F6 := Lib.hid (And.intro f5 kb5)
          have hrun4' : (appKG #[70, 70] 70 #[.slice A0 i c0, .slice (some ⟨w2i.heap.size, 0, none⟩) 1 1]).run Tryz.prog (w2i.alloc (.cells #[.int .u64 (s.tr.hi : Nat), .int .u64 (s.tr.lo : Nat), .slice none 0 0, .int .i64 0] 79)).drew = .ok (.slice A4 (i + 1) c4i) w4 := hrun4
          clear hrun4 hAd kb2 B2i b3 kb4 B4 kb5 B5 hw6 g6 R6 f2 f4 f5
          go_wp2_with fail
          clear cz4 cz4' hrun2
          refine wp_region_K (k := 16) (S := fun w' => w'.cell? ⟨F, 4, none⟩ = some (.slice A0 no c0) ∧ (loadK 37 ⟨r, 0, none⟩).run Tryz.prog w' = .ok (trV s.tr) w') (by kernel_rfl) ⟨d4, d5⟩ (fun hHeld => ?_)
          simp only [List.size_toArray, List.length_cons, List.length_nil, Nat.zero_add, Nat.reduceAdd]
          refine' wpAnyK_take (k := 16) (i := 0) ?o0 (by kernel_rfl) (by kernel_rfl) (by kernel_rfl) (by kernel_rfl) (by kernel_rfl) ?q0 hHeld ?hw0 ?hy0 ?_
          case o0 => (simp only [List.getElem?_toArray, List.getElem?_cons_succ, List.getElem?_cons_zero]; rfl)
          case q0 => exact fun _ _ _ h => h
          case hw0 => rfl
          case hy0 => (intro w hSw; (try unfold Ad15 at hSw); (try dsimp only at hSw); go_simp; try (with_reducible rfl))
          simp only [Act.put, List.setIfInBounds_toArray, List.set_cons_zero, List.set_cons_succ]
          refine' wpAnyK_take (k := 16) (i := 1) ?o1 (by kernel_rfl) (by kernel_rfl) (by kernel_rfl) (by kernel_rfl) (by kernel_rfl) ?q1 hHeld ?hw1 ?hy1 ?_
          case o1 => (simp only [List.getElem?_toArray, List.getElem?_cons_succ, List.getElem?_cons_zero]; rfl)
          case q1 => exact fun _ _ _ h => h
          case hw1 => rfl
          case hy1 => (intro w hSw; (try unfold Ad15 at hSw); (try dsimp only at hSw); go_simp; try (with_reducible rfl))
          simp only [Act.put, List.setIfInBounds_toArray, List.set_cons_zero, List.set_cons_succ]
          refine' wpAnyK_take (k := 16) (i := 2) ?o2 (by kernel_rfl) (by kernel_rfl) (by kernel_rfl) (by kernel_rfl) (by kernel_rfl) ?q2 hHeld ?hw2 ?hy2 ?_
          case o2 => (simp only [List.getElem?_toArray, List.getElem?_cons_succ, List.getElem?_cons_zero]; rfl)
          case q2 => exact fun _ _ _ h => h
          case hw2 => rfl
          case hy2 => (intro w hSw; (try unfold Ad15 at hSw); (try dsimp only at hSw); go_simp; try (with_reducible rfl))
          simp only [Act.put, List.setIfInBounds_toArray, List.set_cons_zero, List.set_cons_succ]
          refine' wpAnyK_take (k := 16) (i := 3) ?o3 (by kernel_rfl) (by kernel_rfl) (by kernel_rfl) (by kernel_rfl) (by kernel_rfl) ?q3 hHeld ?hw3 ?hy3 ?_
          case o3 => (simp only [List.getElem?_toArray, List.getElem?_cons_succ, List.getElem?_cons_zero]; rfl)
          case q3 => exact fun _ _ _ h => h
          case hw3 => rfl
          case hy3 => (intro w hSw; (try unfold Ad15 at hSw); (try dsimp only at hSw); go_simp; try (with_reducible rfl))
          simp only [Act.put, List.setIfInBounds_toArray, List.set_cons_zero, List.set_cons_succ]
          refine' wpAnyK_take (k := 16) (i := 4) ?o4 (by kernel_rfl) (by kernel_rfl) (by kernel_rfl) (by kernel_rfl) (by kernel_rfl) ?q4 hHeld ?hw4 ?hy4 ?_
          case o4 => (simp only [List.getElem?_toArray, List.getElem?_cons_succ, List.getElem?_cons_zero]; rfl)
          case q4 => exact fun _ _ _ h => h
          case hw4 => rfl
          case hy4 => (intro w hSw; (try unfold Ad15 at hSw); (try dsimp only at hSw); go_simp; try (with_reducible rfl))
          simp only [Act.put, List.setIfInBounds_toArray, List.set_cons_zero, List.set_cons_succ]
          refine' wpAnyK_take (k := 16) (i := 5) ?o5 (by kernel_rfl) (by kernel_rfl) (by kernel_rfl) (by kernel_rfl) (by kernel_rfl) ?q5 hHeld ?hw5 ?hy5 ?_
          case o5 => (simp only [List.getElem?_toArray, List.getElem?_cons_succ, List.getElem?_cons_zero]; rfl)
          case q5 => exact fun _ _ _ h => h
          case hw5 => rfl
          case hy5 => (intro w hSw; (try unfold Ad15 at hSw); (try dsimp only at hSw); go_simp; try (with_reducible rfl))
          simp only [Act.put, List.setIfInBounds_toArray, List.set_cons_zero, List.set_cons_succ]
          refine' wpAnyK_take (k := 16) (i := 6) ?o6 (by kernel_rfl) (by kernel_rfl) (by kernel_rfl) (by kernel_rfl) (by kernel_rfl) ?q6 hHeld ?hw6 ?hy6 ?_
          case o6 => (simp only [List.getElem?_toArray, List.getElem?_cons_succ, List.getElem?_cons_zero]; rfl)
          case q6 => exact fun _ _ _ h => h
          case hw6 => rfl
          case hy6 => (intro w hSw; (try unfold Ad15 at hSw); (try dsimp only at hSw); go_simp; try (with_reducible rfl))
          simp only [Act.put, List.setIfInBounds_toArray, List.set_cons_zero, List.set_cons_succ]
          refine' wpAnyK_take (k := 16) (i := 7) ?o7 (by kernel_rfl) (by kernel_rfl) (by kernel_rfl) (by kernel_rfl) (by kernel_rfl) ?q7 hHeld ?hw7 ?hy7 ?_
          case o7 => (simp only [List.getElem?_toArray, List.getElem?_cons_succ, List.getElem?_cons_zero]; rfl)
          case q7 => exact fun _ _ _ h => h
          case hw7 => rfl
          case hy7 => (intro w hSw; (try unfold Ad15 at hSw); (try dsimp only at hSw); go_simp; try (with_reducible rfl))
          simp only [Act.put, List.setIfInBounds_toArray, List.set_cons_zero, List.set_cons_succ]
          refine' wpAnyK_take (k := 16) (i := 8) ?o8 (by kernel_rfl) (by kernel_rfl) (by kernel_rfl) (by kernel_rfl) (by kernel_rfl) ?q8 hHeld ?hw8 ?hy8 ?_
          case o8 => (simp only [List.getElem?_toArray, List.getElem?_cons_succ, List.getElem?_cons_zero]; rfl)
          case q8 => exact fun _ _ _ h => h
          case hw8 => rfl
          case hy8 => (intro w hSw; (try unfold Ad15 at hSw); (try dsimp only at hSw); go_simp; try (with_reducible rfl))
          simp only [Act.put, List.setIfInBounds_toArray, List.set_cons_zero, List.set_cons_succ]
          refine' wpAnyK_take (k := 16) (i := 9) ?o9 (by kernel_rfl) (by kernel_rfl) (by kernel_rfl) (by kernel_rfl) (by kernel_rfl) ?q9 hHeld ?hw9 ?hy9 ?_
          case o9 => (simp only [List.getElem?_toArray, List.getElem?_cons_succ, List.getElem?_cons_zero]; rfl)
          case q9 => exact fun _ _ _ h => h
          case hw9 => rfl
          case hy9 => (intro w hSw; (try unfold Ad15 at hSw); (try dsimp only at hSw); go_simp; try (with_reducible rfl))
          simp only [Act.put, List.setIfInBounds_toArray, List.set_cons_zero, List.set_cons_succ]
          refine' wpAnyK_take (k := 16) (i := 12) ?o12 (by kernel_rfl) (by kernel_rfl) (by kernel_rfl) (by kernel_rfl) (by kernel_rfl) ?q12 hHeld ?hw12 ?hy12 ?_
          case o12 => (simp only [List.getElem?_toArray, List.getElem?_cons_succ, List.getElem?_cons_zero]; rfl)
          case q12 => exact fun _ _ _ h => h
          case hw12 => rfl
          case hy12 => (intro w hSw; (try unfold Ad15 at hSw); (try dsimp only at hSw); go_simp; try (with_reducible rfl))
          simp only [Act.put, List.setIfInBounds_toArray, List.set_cons_zero, List.set_cons_succ]
          refine' wpAnyK_step (k := 16) (i := 10) (by kernel_rfl) ?o10 ?hw10 ?_
          case o10 => (simp only [List.getElem?_toArray, List.getElem?_cons_succ, List.getElem?_cons_zero]; rfl)
          case hw10 => rfl
          intro KK hKK
          go_simp
          clear hHeld
          refine hKK.out _ _ ⟨d43, d53⟩ (fun hHeld => ?_)
          clear hKK KK
          try simp only [Act.put, List.setIfInBounds_toArray, List.set_cons_zero, List.set_cons_succ]
          refine' wpAnyK_step (k := 16) (i := 11) (by kernel_rfl) ?o11 ?hw11 ?_
          case o11 => (simp only [List.getElem?_toArray, List.getElem?_cons_succ, List.getElem?_cons_zero]; rfl)
          case hw11 => rfl
          intro KK hKK
          go_simp
          clear hHeld
          refine hKK.out _ _ ⟨d44, d54⟩ (fun hHeld => ?_)
          clear hKK KK
          try simp only [Act.put, List.setIfInBounds_toArray, List.set_cons_zero, List.set_cons_succ]
          refine' wpAnyK_step (k := 16) (i := 13) (by kernel_rfl) ?o13 ?hw13 ?_
          case o13 => (simp only [List.getElem?_toArray, List.getElem?_cons_succ, List.getElem?_cons_zero]; rfl)
          case hw13 => rfl
          intro KK hKK
          go_simp
          clear hHeld
          refine hKK.out _ _ ⟨d45, d55⟩ (fun hHeld => ?_)
          clear hKK KK
          try simp only [Act.put, List.setIfInBounds_toArray, List.set_cons_zero, List.set_cons_succ]
          refine' wpAnyK_step (k := 16) (i := 14) (by kernel_rfl) ?o14 ?hw14 ?_
          case o14 => (simp only [List.getElem?_toArray, List.getElem?_cons_succ, List.getElem?_cons_zero]; rfl)
          case hw14 => rfl
          intro KK hKK
          go_simp
          clear hHeld
          refine hKK.out _ _ ⟨d45, d55⟩ (fun hHeld => ?_)
          clear hKK KK
          try simp only [Act.put, List.setIfInBounds_toArray, List.set_cons_zero, List.set_cons_succ]
          refine' wpAnyK_step (k := 16) (i := 15) (by kernel_rfl) ?o15 ?hw15 ?_
          case o15 => (simp only [List.getElem?_toArray, List.getElem?_cons_succ, List.getElem?_cons_zero]; rfl)
          case hw15 => rfl
          intro KK hKK
          go_simp
          clear hHeld
          refine hKK.out _ _ ⟨d45, d55⟩ (fun hHeld => ?_)
          clear hKK KK
          try simp only [Act.put, List.setIfInBounds_toArray, List.set_cons_zero, List.set_cons_succ]
          refine wpAnyK_cut (by kernel_rfl) (by simp only [List.getElem?_toArray, List.getElem?_cons_succ, List.getElem?_cons_zero]; rfl) (by kernel_rfl) (by kernel_rfl) (by rfl) ?_
          clear hHeld
          go_simp
          clear d4 d5 d43 d53 d44 d54 d45 d55 z45 hrun4' hrun5 hsl hsl1
          obtain ⟨hw6, g6, R6⟩ := G6.out
          rw [← hw6]
          obtain ⟨wa, ewa⟩ : ∃ wa, w6 = wa := ⟨_, rfl⟩
          rw [ewa] at g6 R6 hw6
          rw [ewa]
          obtain ⟨m1, hm1⟩ : ∃ m1 : RM, { m with ov := Value.slice A5 (no + 1) c5, oe := m.oe.take i ++ newOE s.tr :: m.oe.drop i } = m1 := ⟨_, rfl⟩
          obtain ⟨G1, hG1⟩ : ∃ G1 : GSt, { G with op := G.op.take i ++ ⟨s.tr, [], 0⟩ :: G.op.drop i } = G1 := ⟨_, rfl⟩
          obtain ⟨e1, he1⟩ : ∃ e1, newOE s.tr = e1 := ⟨_, rfl⟩
          obtain ⟨n1, hn1⟩ : ∃ n1, no + 1 = n1 := ⟨_, rfl⟩
          rw [hm1, hG1] at R6
          have fs : FrK w5i wa (Kis F) := by rw [hw6]; exact FrK.set w5i F 4 _
          have RA : Hid (Rga base wa K1 Z F G1 m1) := Lib.hid R6
          have GA : Hid (Gro w wa K K1 Z Z) := Lib.hid (GZ.out.trans g6)
          have BA : Hid (Bk wa r 40 (spC s A n c)) := Lib.hid (fs.bk (F6.out.1.bk BZ.out fun e => HRK.out r e rfl) fun e => ne_of_type (F6.out.1.bk BZ.out fun e => HRK.out r e rfl) F6.out.2 (by decide) (show r = F from e))
          have TA : Hid (RbT wa wa.heap.size A s.tags) := Lib.hid (rdFr HA.out.1 GA.out.fr HAP.out)
          have hlt : (m.oe.take i).length = i := by rw [List.length_take, HV0.out.2]; omega
          have HE : Hid (m1.oe[i]? = some e1 ∧ m1.oe.length = n1 ∧ e1.t = s.tr ∧ e1.l.length ≤ 32) := Lib.hid ⟨by rw [← hm1, ← he1]; show (m.oe.take i ++ newOE s.tr :: m.oe.drop i)[i]? = _; rw [List.getElem?_append_right (by omega), hlt, Nat.sub_self]; rfl, by rw [← hm1, ← hn1]; show (m.oe.take i ++ newOE s.tr :: m.oe.drop i).length = _; rw [List.length_append, List.length_cons, hlt, List.length_drop, HV0.out.2]; omega, by rw [← he1]; rfl, by rw [← he1]; simp [newOE]⟩
          have hput := putIn_at (x := ⟨s.tr, G.lst s, G.now⟩) (l := G.op) (i := i) (fun j' z hj hz => HPOS.out j' z hj hz) (by have := H3.out.oN; have := HV0.out.2; omega) (fun z hz => HNE.out z hz)
          have hput0 := putIn_at (x := ⟨s.tr, [], 0⟩) (l := G.op) (i := i) (fun j' z hj hz => HPOS.out j' z hj hz) (by have := H3.out.oN; have := HV0.out.2; omega) (fun z hz => HNE.out z hz)
          have OS : Hid (OpS G1.op) := Lib.hid (by rw [← hG1]; show OpS (G.op.take i ++ ⟨s.tr, [], 0⟩ :: G.op.drop i); rw [← hput0]; exact OpS.putIn HOK.out.ops)
          have hlt2 : (G.op.take i).length = i := by rw [List.length_take]; have := H3.out.oN; have := HV0.out.2; omega
          have HPL : Hid (({ G1 with op := G1.op.set i ⟨e1.t, sps e1.l ++ [s], G1.now⟩ } : GSt) = { G with op := GSt.putIn ⟨s.tr, G.lst s, G.now⟩ G.op } ∧ sps e1.l ++ [s] = G.lst s) := by
            have h8 : sps e1.l ++ [s] = G.lst s := by
              unfold GSt.lst
              rw [get_none_at HOK.out.ops (fun j' z hj hz => HPOS.out j' z hj hz) (fun z hz => HNE.out z hz), ← he1]
              rfl
            refine Lib.hid ⟨?_, h8⟩
            rw [← hG1, h8, show e1.t = s.tr from HE.out.2.2.1, hput]
            show ({ G with op := (G.op.take i ++ ⟨s.tr, [], 0⟩ :: G.op.drop i).set i ⟨s.tr, G.lst s, G.now⟩ } : GSt) = _
            rw [List.set_append_right _ _ (by omega), hlt2, Nat.sub_self]
            rfl
          have HRK : Hid (∀ q, K1 q → q ≠ r) := Lib.hid fun q hq e => (g6.kn q hq).elim (fun e2 => HRK.out q e2 e) fun e2 => by have := BZ.out.lt; omega
          clear hput hput0 hlt hlt2 fs hw6 g6 R6 hn1 he1 hG1 hm1 ewa
          have hbn : ∃ b cc, m1.ov = .slice (some ⟨b, 0, none⟩) n1 cc := by
            obtain ⟨g, cap, hv3, -, -⟩ := RA.out.o.form (by have := HE.out.2.1; have := (List.getElem?_eq_some_iff.1 HE.out.1).1; omega)
            exact ⟨g, cap, by rw [hv3, HE.out.2.1]⟩
          obtain ⟨b, cc, hv1⟩ := hbn
          have hi1 : i < n1 := by have := HE.out.2.1; have := (List.getElem?_eq_some_iff.1 HE.out.1).1; omega
          have hi1' : (i : Int) < (n1 : Int) := by omega
          obtain ⟨lx, hlx⟩ : ∃ lx, e1.l.length = lx := ⟨_, rfl⟩
          have hRd := RA.out.below (Below.refl _ wa).drew
          have hBd : Bk wa.drew r 40 (spC s A n c) := BA.out
          have S0 := hRd.ad15 hv1 HE.out.1 hlx hBd
          have CP := Lib.hid (rCopy (c := c) s wa.drew (show RbT wa.drew wa.drew.heap.size A s.tags from TA.out) HN.out.1 (Nat.le_refl _) (by have := HN.out.2; omega))
          have HV1 := Lib.hid (And.intro hv1 hlx)
          have HRD := Lib.hid hRd
          have HBD := Lib.hid hBd
          clear hv1 hlx hRd hBd
          go_wp2_with fail
          refine wp_region_K (k := 19) (S := Ad15 F r b i lx n1 cc e1 s A n c) (by kernel_rfl) S0 (fun hHeld => ?_)
          simp only [List.size_toArray, List.length_cons, List.length_nil, Nat.zero_add, Nat.reduceAdd]
          refine' wpAnyK_take (k := 19) (i := 0) ?o0 (by kernel_rfl) (by kernel_rfl) (by kernel_rfl) (by kernel_rfl) (by kernel_rfl) ?q0 hHeld ?hw0 ?hy0 ?_
          case o0 => (simp only [List.getElem?_toArray, List.getElem?_cons_succ, List.getElem?_cons_zero]; rfl)
          case q0 => exact fun _ _ _ h => h
          case hw0 => rfl
          case hy0 => (intro w hSw; (try unfold Ad15 at hSw); (try dsimp only at hSw); go_simp; try (with_reducible rfl))
          simp only [Act.put, List.setIfInBounds_toArray, List.set_cons_zero, List.set_cons_succ]
          refine' wpAnyK_take (k := 19) (i := 1) ?o1 (by kernel_rfl) (by kernel_rfl) (by kernel_rfl) (by kernel_rfl) (by kernel_rfl) ?q1 hHeld ?hw1 ?hy1 ?_
          case o1 => (simp only [List.getElem?_toArray, List.getElem?_cons_succ, List.getElem?_cons_zero]; rfl)
          case q1 => exact fun _ _ _ h => h
          case hw1 => rfl
          case hy1 => (intro w hSw; (try unfold Ad15 at hSw); (try dsimp only at hSw); go_simp; try (with_reducible rfl))
          simp only [Act.put, List.setIfInBounds_toArray, List.set_cons_zero, List.set_cons_succ]
          refine' wpAnyK_take (k := 19) (i := 2) ?o2 (by kernel_rfl) (by kernel_rfl) (by kernel_rfl) (by kernel_rfl) (by kernel_rfl) ?q2 hHeld ?hw2 ?hy2 ?_
          case o2 => (simp only [List.getElem?_toArray, List.getElem?_cons_succ, List.getElem?_cons_zero]; rfl)
          case q2 => exact fun _ _ _ h => h
          case hw2 => rfl
          case hy2 => (intro w hSw; (try unfold Ad15 at hSw); (try dsimp only at hSw); go_simp; try (with_reducible rfl))
          simp only [Act.put, List.setIfInBounds_toArray, List.set_cons_zero, List.set_cons_succ]
          refine' wpAnyK_take (k := 19) (i := 3) ?o3 (by kernel_rfl) (by kernel_rfl) (by kernel_rfl) (by kernel_rfl) (by kernel_rfl) ?q3 hHeld ?hw3 ?hy3 ?_
          case o3 => (simp only [List.getElem?_toArray, List.getElem?_cons_succ, List.getElem?_cons_zero]; rfl)
          case q3 => exact fun _ _ _ h => h
          case hw3 => rfl
          case hy3 => (intro w hSw; (try unfold Ad15 at hSw); (try dsimp only at hSw); go_simp; try (with_reducible rfl))
          simp only [Act.put, List.setIfInBounds_toArray, List.set_cons_zero, List.set_cons_succ]
          refine' wpAnyK_take (k := 19) (i := 4) ?o4 (by kernel_rfl) (by kernel_rfl) (by kernel_rfl) (by kernel_rfl) (by kernel_rfl) ?q4 hHeld ?hw4 ?hy4 ?_
          case o4 => (simp only [List.getElem?_toArray, List.getElem?_cons_succ, List.getElem?_cons_zero]; rfl)
          case q4 => exact fun _ _ _ h => h
          case hw4 => rfl
          case hy4 => (intro w hSw; (try unfold Ad15 at hSw); (try dsimp only at hSw); go_simp; try (with_reducible rfl))
          simp only [Act.put, List.setIfInBounds_toArray, List.set_cons_zero, List.set_cons_succ]
          refine' wpAnyK_take (k := 19) (i := 5) ?o5 (by kernel_rfl) (by kernel_rfl) (by kernel_rfl) (by kernel_rfl) (by kernel_rfl) ?q5 hHeld ?hw5 ?hy5 ?_
          case o5 => (simp only [List.getElem?_toArray, List.getElem?_cons_succ, List.getElem?_cons_zero]; rfl)
          case q5 => exact fun _ _ _ h => h
          case hw5 => rfl
          case hy5 => (intro w hSw; (try unfold Ad15 at hSw); (try dsimp only at hSw); go_simp; try (with_reducible rfl))
          simp only [Act.put, List.setIfInBounds_toArray, List.set_cons_zero, List.set_cons_succ]
          refine' wpAnyK_take (k := 19) (i := 6) ?o6 (by kernel_rfl) (by kernel_rfl) (by kernel_rfl) (by kernel_rfl) (by kernel_rfl) ?q6 hHeld ?hw6 ?hy6 ?_
          case o6 => (simp only [List.getElem?_toArray, List.getElem?_cons_succ, List.getElem?_cons_zero]; rfl)
          case q6 => exact fun _ _ _ h => h
          case hw6 => rfl
          case hy6 => (intro w hSw; (try unfold Ad15 at hSw); (try dsimp only at hSw); go_simp; try (with_reducible rfl))
          simp only [Act.put, List.setIfInBounds_toArray, List.set_cons_zero, List.set_cons_succ]
          refine' wpAnyK_take (k := 19) (i := 7) ?o7 (by kernel_rfl) (by kernel_rfl) (by kernel_rfl) (by kernel_rfl) (by kernel_rfl) ?q7 hHeld ?hw7 ?hy7 ?_
          case o7 => (simp only [List.getElem?_toArray, List.getElem?_cons_succ, List.getElem?_cons_zero]; rfl)
          case q7 => exact fun _ _ _ h => h
          case hw7 => rfl
          case hy7 => (intro w hSw; (try unfold Ad15 at hSw); (try dsimp only at hSw); go_simp; try (with_reducible rfl))
          simp only [Act.put, List.setIfInBounds_toArray, List.set_cons_zero, List.set_cons_succ]
          refine' wpAnyK_take (k := 19) (i := 8) ?o8 (by kernel_rfl) (by kernel_rfl) (by kernel_rfl) (by kernel_rfl) (by kernel_rfl) ?q8 hHeld ?hw8 ?hy8 ?_
          case o8 => (simp only [List.getElem?_toArray, List.getElem?_cons_succ, List.getElem?_cons_zero]; rfl)
          case q8 => exact fun _ _ _ h => h
          case hw8 => rfl
          case hy8 => (intro w hSw; (try unfold Ad15 at hSw); (try dsimp only at hSw); go_simp; try (with_reducible rfl))
          simp only [Act.put, List.setIfInBounds_toArray, List.set_cons_zero, List.set_cons_succ]
          refine' wpAnyK_take (k := 19) (i := 9) ?o9 (by kernel_rfl) (by kernel_rfl) (by kernel_rfl) (by kernel_rfl) (by kernel_rfl) ?q9 hHeld ?hw9 ?hy9 ?_
          case o9 => (simp only [List.getElem?_toArray, List.getElem?_cons_succ, List.getElem?_cons_zero]; rfl)
          case q9 => exact fun _ _ _ h => h
          case hw9 => rfl
          case hy9 => (intro w hSw; (try unfold Ad15 at hSw); (try dsimp only at hSw); go_simp; try (with_reducible rfl))
          simp only [Act.put, List.setIfInBounds_toArray, List.set_cons_zero, List.set_cons_succ]
          refine' wpAnyK_take (k := 19) (i := 10) ?o10 (by kernel_rfl) (by kernel_rfl) (by kernel_rfl) (by kernel_rfl) (by kernel_rfl) ?q10 hHeld ?hw10 ?hy10 ?_
          case o10 => (simp only [List.getElem?_toArray, List.getElem?_cons_succ, List.getElem?_cons_zero]; rfl)
          case q10 => exact fun _ _ _ h => h
          case hw10 => rfl
          case hy10 => (intro w hSw; (try unfold Ad15 at hSw); (try dsimp only at hSw); go_simp; try (with_reducible rfl))
          simp only [Act.put, List.setIfInBounds_toArray, List.set_cons_zero, List.set_cons_succ]
          refine' wpAnyK_take (k := 19) (i := 11) ?o11 (by kernel_rfl) (by kernel_rfl) (by kernel_rfl) (by kernel_rfl) (by kernel_rfl) ?q11 hHeld ?hw11 ?hy11 ?_
          case o11 => (simp only [List.getElem?_toArray, List.getElem?_cons_succ, List.getElem?_cons_zero]; rfl)
          case q11 => exact fun _ _ _ h => h
          case hw11 => rfl
          case hy11 => (intro w hSw; (try unfold Ad15 at hSw); (try dsimp only at hSw); go_simp; try (with_reducible rfl))
          simp only [Act.put, List.setIfInBounds_toArray, List.set_cons_zero, List.set_cons_succ]
          refine' wpAnyK_take (k := 19) (i := 12) ?o12 (by kernel_rfl) (by kernel_rfl) (by kernel_rfl) (by kernel_rfl) (by kernel_rfl) ?q12 hHeld ?hw12 ?hy12 ?_
          case o12 => (simp only [List.getElem?_toArray, List.getElem?_cons_succ, List.getElem?_cons_zero]; rfl)
          case q12 => exact fun _ _ _ h => h
          case hw12 => rfl
          case hy12 => (intro w hSw; (try unfold Ad15 at hSw); (try dsimp only at hSw); go_simp; try (with_reducible rfl))
          simp only [Act.put, List.setIfInBounds_toArray, List.set_cons_zero, List.set_cons_succ]
          refine' wpAnyK_take (k := 19) (i := 13) ?o13 (by kernel_rfl) (by kernel_rfl) (by kernel_rfl) (by kernel_rfl) (by kernel_rfl) ?q13 hHeld ?hw13 ?hy13 ?_
          case o13 => (simp only [List.getElem?_toArray, List.getElem?_cons_succ, List.getElem?_cons_zero]; rfl)
          case q13 => exact fun _ _ _ h => h
          case hw13 => rfl
          case hy13 => (intro w hSw; (try unfold Ad15 at hSw); (try dsimp only at hSw); go_simp; try (with_reducible rfl))
          simp only [Act.put, List.setIfInBounds_toArray, List.set_cons_zero, List.set_cons_succ]
          refine' wpAnyK_step (k := 19) (i := 14) (by kernel_rfl) ?o14 ?hw14 ?_
          case o14 => (simp only [List.getElem?_toArray, List.getElem?_cons_succ, List.getElem?_cons_zero]; rfl)
          case hw14 => rfl
          intro KK hKK
          go_simp
          refine CP.out.mono ?_
          rintro e w5 ⟨A', c', rfl, hr5, hb5, hc5, hlo5, -⟩
          obtain ⟨A7, c7, w7, hrun7, f7, k7, ho7, k8, ho8, K9, Z9, g9, R9⟩ := HRD.out.setJ (c' := c') OS.out HV1.out.1 HE.out.2.1 HE.out.1 HV1.out.2 (by have := HE.out.2.2.2; have := HV1.out.2; omega) hb5 hr5 HN.out.1 (by have := HN.out.2; omega) hlo5
          have hR5 := HRD.out.below hb5
          have hB5 := HBD.out.below hb5 HBD.out.lt
          have J5 := hR5.ad15 HV1.out.1 HE.out.1 HV1.out.2 hB5
          have b6 : Below w5.heap.size w5 (w5.alloc (.cells (spC s A' n c') 40)) := (Below.refl _ w5).alloc (Nat.le_refl _) _
          have hB6 := hB5.below b6 hB5.lt
          have J6 := (hR5.below b6).ad15 HV1.out.1 HE.out.1 HV1.out.2 hB6
          have hB7 : Bk w7 r 40 (spC s A n c) := f7.bk HBD.out (fun e2 => by
            exact HRK.out r (HRD.out.kR e1 (List.mem_of_getElem? HE.out.1) r e2) rfl)
          have J7 : Ad15 F r b i lx n1 cc e1 s A n c w7 := ad15_of k7 ho7 HV1.out.1 HE.out.2.1 HE.out.1 HV1.out.2 hB7
          have hv1 := HV1.out.1
          have hn1 := HE.out.2.1
          rw [hv1, hn1] at ho7 ho8
          have q7 : w7.cell? ⟨b, i * 4 + 2, none⟩ = some (.slice e1.A lx e1.c) := J7.2.1
          have z7 := ho7.frozenAt (i * 4 + 2)
          have F9 := Lib.hid (And.intro g9 R9)
          have K8 := Lib.hid k8
          have O8 := Lib.hid ho8
          clear hr5 hb5 hc5 hlo5 f7 k7 ho7 k8 ho8 g9 R9 hR5 hB5 b6 hB6 hB7 hv1 hn1
          go_wp2_with fail
          clear hHeld
          refine hKK.out _ _ J5 (fun hHeld => ?_)
          clear hKK KK
          try simp only [Act.put, List.setIfInBounds_toArray, List.set_cons_zero, List.set_cons_succ]
          refine' wpAnyK_step (k := 19) (i := 15) (by kernel_rfl) ?o15 ?hw15 ?_
          case o15 => (simp only [List.getElem?_toArray, List.getElem?_cons_succ, List.getElem?_cons_zero]; rfl)
          case hw15 => rfl
          intro KK hKK
          go_simp
          clear hHeld
          refine hKK.out _ _ J6 (fun hHeld => ?_)
          clear hKK KK
          try simp only [Act.put, List.setIfInBounds_toArray, List.set_cons_zero, List.set_cons_succ]
          refine' wpAnyK_step (k := 19) (i := 16) (by kernel_rfl) ?o16 ?hw16 ?_
          case o16 => (simp only [List.getElem?_toArray, List.getElem?_cons_succ, List.getElem?_cons_zero]; rfl)
          case hw16 => rfl
          intro KK hKK
          go_simp
          clear hHeld
          refine hKK.out _ _ J7 (fun hHeld => ?_)
          clear hKK KK
          try simp only [Act.put, List.setIfInBounds_toArray, List.set_cons_zero, List.set_cons_succ]
          refine' wpAnyK_step (k := 19) (i := 17) (by kernel_rfl) ?o17 ?hw17 ?_
          case o17 => (simp only [List.getElem?_toArray, List.getElem?_cons_succ, List.getElem?_cons_zero]; rfl)
          case hw17 => rfl
          intro KK hKK
          go_simp
          clear hHeld
          refine hKK.out _ _ J7 (fun hHeld => ?_)
          clear hKK KK
          try simp only [Act.put, List.setIfInBounds_toArray, List.set_cons_zero, List.set_cons_succ]
          refine' wpAnyK_step (k := 19) (i := 18) (by kernel_rfl) ?o18 ?hw18 ?_
          case o18 => (simp only [List.getElem?_toArray, List.getElem?_cons_succ, List.getElem?_cons_zero]; rfl)
          case hw18 => rfl
          intro KK hKK
          go_simp
          clear hHeld
          refine hKK.out _ _ J7 (fun hHeld => ?_)
          clear hKK KK
          try simp only [Act.put, List.setIfInBounds_toArray, List.set_cons_zero, List.set_cons_succ]
          refine wpAnyK_cut (by kernel_rfl) (by simp only [List.getElem?_toArray, List.getElem?_cons_succ, List.getElem?_cons_zero]; rfl) (by kernel_rfl) (by kernel_rfl) (by rfl) ?_
          clear hHeld
          go_simp
          clear hrun7 J5 J6 J7 q7 z7 CP S0
          obtain ⟨w8, e8⟩ : ∃ w8, w7.setCell ⟨b, i * 4 + 2, none⟩ (.slice A7 (lx + 1) c7) = w8 := ⟨_, rfl⟩
          rw [e8] at F9 K8 O8 ⊢
          clear e8
          have q8 : ∃ u, w8.cell? ⟨b, i * 4 + 3, none⟩ = some u := by
            rw [O8.out.cellAt (i * 4 + 3) (by omega)]
            exact ⟨_, List.getElem?_eq_getElem (by rw [flatR_length oeC_length, List.length_set]; have := HE.out.2.1; omega)⟩
          obtain ⟨u8, q8⟩ := q8
          have z8 := O8.out.frozenAt (i * 4 + 3)
          have c48 : w8.drew.cell? ⟨F, 4, none⟩ = some (.slice (some ⟨b, 0, none⟩) n1 cc) := by
            rw [show w8.drew.cell? ⟨F, 4, none⟩ = w8.cell? ⟨F, 4, none⟩ from rfl, K8.out.cell 4, ← HV1.out.1]
            rfl
          have c38 : w8.drew.cell? ⟨F, 3, none⟩ = some (.int .i64 G1.now) := (K8.out.cell 3).trans rfl
          go_wp2_with fail
          refine wp_region_K (k := 11) (S := fun w' => w'.cell? ⟨F, 4, none⟩ = some (.slice (some ⟨b, 0, none⟩) n1 cc) ∧ w'.cell? ⟨F, 3, none⟩ = some (.int .i64 G1.now)) (by kernel_rfl) ⟨c48, c38⟩ (fun hHeld => ?_)
          simp only [List.size_toArray, List.length_cons, List.length_nil, Nat.zero_add, Nat.reduceAdd]
          refine' wpAnyK_take (k := 11) (i := 0) ?o0 (by kernel_rfl) (by kernel_rfl) (by kernel_rfl) (by kernel_rfl) (by kernel_rfl) ?q0 hHeld ?hw0 ?hy0 ?_
          case o0 => (simp only [List.getElem?_toArray, List.getElem?_cons_succ, List.getElem?_cons_zero]; rfl)
          case q0 => exact fun _ _ _ h => h
          case hw0 => rfl
          case hy0 => (intro w hSw; (try unfold Ad15 at hSw); (try dsimp only at hSw); go_simp; try (with_reducible rfl))
          simp only [Act.put, List.setIfInBounds_toArray, List.set_cons_zero, List.set_cons_succ]
          refine' wpAnyK_take (k := 11) (i := 1) ?o1 (by kernel_rfl) (by kernel_rfl) (by kernel_rfl) (by kernel_rfl) (by kernel_rfl) ?q1 hHeld ?hw1 ?hy1 ?_
          case o1 => (simp only [List.getElem?_toArray, List.getElem?_cons_succ, List.getElem?_cons_zero]; rfl)
          case q1 => exact fun _ _ _ h => h
          case hw1 => rfl
          case hy1 => (intro w hSw; (try unfold Ad15 at hSw); (try dsimp only at hSw); go_simp; try (with_reducible rfl))
          simp only [Act.put, List.setIfInBounds_toArray, List.set_cons_zero, List.set_cons_succ]
          refine' wpAnyK_take (k := 11) (i := 2) ?o2 (by kernel_rfl) (by kernel_rfl) (by kernel_rfl) (by kernel_rfl) (by kernel_rfl) ?q2 hHeld ?hw2 ?hy2 ?_
          case o2 => (simp only [List.getElem?_toArray, List.getElem?_cons_succ, List.getElem?_cons_zero]; rfl)
          case q2 => exact fun _ _ _ h => h
          case hw2 => rfl
          case hy2 => (intro w hSw; (try unfold Ad15 at hSw); (try dsimp only at hSw); go_simp; try (with_reducible rfl))
          simp only [Act.put, List.setIfInBounds_toArray, List.set_cons_zero, List.set_cons_succ]
          refine' wpAnyK_take (k := 11) (i := 3) ?o3 (by kernel_rfl) (by kernel_rfl) (by kernel_rfl) (by kernel_rfl) (by kernel_rfl) ?q3 hHeld ?hw3 ?hy3 ?_
          case o3 => (simp only [List.getElem?_toArray, List.getElem?_cons_succ, List.getElem?_cons_zero]; rfl)
          case q3 => exact fun _ _ _ h => h
          case hw3 => rfl
          case hy3 => (intro w hSw; (try unfold Ad15 at hSw); (try dsimp only at hSw); go_simp; try (with_reducible rfl))
          simp only [Act.put, List.setIfInBounds_toArray, List.set_cons_zero, List.set_cons_succ]
          refine' wpAnyK_take (k := 11) (i := 4) ?o4 (by kernel_rfl) (by kernel_rfl) (by kernel_rfl) (by kernel_rfl) (by kernel_rfl) ?q4 hHeld ?hw4 ?hy4 ?_
          case o4 => (simp only [List.getElem?_toArray, List.getElem?_cons_succ, List.getElem?_cons_zero]; rfl)
          case q4 => exact fun _ _ _ h => h
          case hw4 => rfl
          case hy4 => (intro w hSw; (try unfold Ad15 at hSw); (try dsimp only at hSw); go_simp; try (with_reducible rfl))
          simp only [Act.put, List.setIfInBounds_toArray, List.set_cons_zero, List.set_cons_succ]
          refine' wpAnyK_take (k := 11) (i := 5) ?o5 (by kernel_rfl) (by kernel_rfl) (by kernel_rfl) (by kernel_rfl) (by kernel_rfl) ?q5 hHeld ?hw5 ?hy5 ?_
          case o5 => (simp only [List.getElem?_toArray, List.getElem?_cons_succ, List.getElem?_cons_zero]; rfl)
          case q5 => exact fun _ _ _ h => h
          case hw5 => rfl
          case hy5 => (intro w hSw; (try unfold Ad15 at hSw); (try dsimp only at hSw); go_simp; try (with_reducible rfl))
          simp only [Act.put, List.setIfInBounds_toArray, List.set_cons_zero, List.set_cons_succ]
          refine' wpAnyK_take (k := 11) (i := 6) ?o6 (by kernel_rfl) (by kernel_rfl) (by kernel_rfl) (by kernel_rfl) (by kernel_rfl) ?q6 hHeld ?hw6 ?hy6 ?_
          case o6 => (simp only [List.getElem?_toArray, List.getElem?_cons_succ, List.getElem?_cons_zero]; rfl)
          case q6 => exact fun _ _ _ h => h
          case hw6 => rfl
          case hy6 => (intro w hSw; (try unfold Ad15 at hSw); (try dsimp only at hSw); go_simp; try (with_reducible rfl))
          simp only [Act.put, List.setIfInBounds_toArray, List.set_cons_zero, List.set_cons_succ]
          refine' wpAnyK_take (k := 11) (i := 7) ?o7 (by kernel_rfl) (by kernel_rfl) (by kernel_rfl) (by kernel_rfl) (by kernel_rfl) ?q7 hHeld ?hw7 ?hy7 ?_
          case o7 => (simp only [List.getElem?_toArray, List.getElem?_cons_succ, List.getElem?_cons_zero]; rfl)
          case q7 => exact fun _ _ _ h => h
          case hw7 => rfl
          case hy7 => (intro w hSw; (try unfold Ad15 at hSw); (try dsimp only at hSw); go_simp; try (with_reducible rfl))
          simp only [Act.put, List.setIfInBounds_toArray, List.set_cons_zero, List.set_cons_succ]
          refine' wpAnyK_take (k := 11) (i := 8) ?o8 (by kernel_rfl) (by kernel_rfl) (by kernel_rfl) (by kernel_rfl) (by kernel_rfl) ?q8 hHeld ?hw8 ?hy8 ?_
          case o8 => (simp only [List.getElem?_toArray, List.getElem?_cons_succ, List.getElem?_cons_zero]; rfl)
          case q8 => exact fun _ _ _ h => h
          case hw8 => rfl
          case hy8 => (intro w hSw; (try unfold Ad15 at hSw); (try dsimp only at hSw); go_simp; try (with_reducible rfl))
          simp only [Act.put, List.setIfInBounds_toArray, List.set_cons_zero, List.set_cons_succ]
          refine' wpAnyK_step (k := 11) (i := 9) (by kernel_rfl) ?o9 ?hw9 ?_
          case o9 => (simp only [List.getElem?_toArray, List.getElem?_cons_succ, List.getElem?_cons_zero]; rfl)
          case hw9 => rfl
          intro KK hKK
          go_simp
          clear hHeld
          refine hKK.out _ _ ⟨c48, c38⟩ (fun hHeld => ?_)
          clear hKK KK
          try simp only [Act.put, List.setIfInBounds_toArray, List.set_cons_zero, List.set_cons_succ]
          refine' wpAnyK_step (k := 11) (i := 10) (by kernel_rfl) ?o10 ?hw10 ?_
          case o10 => (simp only [List.getElem?_toArray, List.getElem?_cons_succ, List.getElem?_cons_zero]; rfl)
          case hw10 => rfl
          intro KK hKK
          go_simp
          clear hHeld
          refine hKK.out _ _ ⟨c48, c38⟩ (fun hHeld => ?_)
          clear hKK KK
          try simp only [Act.put, List.setIfInBounds_toArray, List.set_cons_zero, List.set_cons_succ]
          refine wpAnyK_cut (by kernel_rfl) (by simp only [List.getElem?_toArray, List.getElem?_cons_succ, List.getElem?_cons_zero]; rfl) (by kernel_rfl) (by kernel_rfl) (by rfl) ?_
          clear hHeld
          go_simp
          clear c48 c38 q8 z8 K8 O8
          obtain ⟨w9, e9⟩ : ∃ w9, w8.setCell ⟨b, i * 4 + 3, none⟩ (.int .i64 G1.now) = w9 := ⟨_, rfl⟩
          have e9' : w8.drew.setCell ⟨b, i * 4 + 3, none⟩ (.int .i64 G1.now) = w9.drew := by rw [← e9]; rfl
          rw [e9] at F9
          try rw [e9]
          try rw [e9']
          clear e9 e9'
          obtain ⟨m9, hm9⟩ : ∃ m9 : RM, { m1 with oe := m1.oe.set i (nxE e1 s A' n c' A7 c7 G1.now) } = m9 := ⟨_, rfl⟩
          have hi9 : m9.oe[i]? = some (nxE e1 s A' n c' A7 c7 G1.now) := by
            rw [← hm9]
            exact List.getElem?_set_self (by have := HE.out.2.1; omega)
          have hv9 : m9.ov = .slice (some ⟨b, 0, none⟩) n1 cc := by rw [← hm9]; exact HV1.out.1
          have hl9 : (nxE e1 s A' n c' A7 c7 G1.now).l.length = lx + 1 := by
            show (e1.l ++ [_]).length = _
            rw [List.length_append, HV1.out.2]
            rfl
          obtain ⟨g9, R9⟩ := F9.out
          rw [hm9, HPL.out.1] at R9
          have R10 := R9
          have HG10 := Lib.hid ((GA.out.trans (Gro.refl (FrK.refl wa K1).drew)).trans g9)
          have c410 : w9.cell? ⟨F, 4, none⟩ = some (.slice (some ⟨b, 0, none⟩) n1 cc) := by rw [R9.blk.cell 4, ← hv9]; rfl
          have c210 : w9.cell? ⟨F, 2, none⟩ = some (.int .i64 G.cap) := (R9.blk.cell 2).trans rfl
          have x10 : w9.cell? ⟨b, i * 4 + 2, none⟩ = some (.slice A7 (lx + 1) c7) := by
            have h3 := R9.o
            have h4 : m9.oe.length = n1 := by rw [← hm9]; exact (List.length_set ..).trans HE.out.2.1
            rw [hv9, h4] at h3
            rw [h3.cellAt (i * 4 + 2) (by omega), flatR_get oeC_length hi9 2 (by omega), ← hl9]
            rfl
          have hll : (G.lst s).length = lx + 1 := by rw [← HPL.out.2, List.length_append, sps_length, HV1.out.2]; rfl
          have hadd := GSt.add_eq G s
          rw [if_neg (by rw [HQ.out]; decide), if_neg HNIN.out, hll] at hadd
          have HR10 := Lib.hid R10
          have HI9 := Lib.hid (And.intro hi9 (And.intro hl9 hm9))
          have HAD := Lib.hid hadd
          clear g9 R9 R10 hi9 hv9 hl9 hm9 hll hadd F9
          by_cases hfull : G.cap ≤ ((lx + 1 : Nat) : Int)
          · have hfull' : G.cap ≤ (lx : Int) + 1 := by simpa using hfull
            have hfd : decide (G.cap ≤ (lx : Int) + 1) = true := by simpa using hfull
            have hfd2 : decide ((lx : Int) + 1 ≥ G.cap) = true := by simpa using hfull
            have hadd := HAD.out
            rw [if_pos hfull] at hadd
            have HAD2 := Lib.hid hadd
            clear hadd hfull
            go_wp2_with fail
            go_quiet (fail)
            have hR11 := HR10.out.below (below_drewN (Below.refl _ w9) (1 + nq))
            have CC := Lib.hid (rgClose hR11 (OpS.putIn HOK.out.ops) HI9.out.1 (by rw [hR11.ceN]; have := HOK.out.num; show G.cl.length ≤ _; omega) (by show G.all.length ≤ _; have := HALL.out; omega) (by rw [hR11.oN]; have := putIn_length ⟨s.tr, G.lst s, G.now⟩ G.op; have := HOK.out.num; show (GSt.putIn _ G.op).length ≤ _; omega) (by rw [HI9.out.2.1]; have := HE.out.2.2.2; have := HV1.out.2; omega) (fun x hx => by
              have h3 := (hR11.el _ (List.mem_of_getElem? HI9.out.1) x hx).ok.len
              have h4 : x.s ∈ G.lst s := by
                rw [← HPL.out.2]
                have h5 : x.s ∈ (nxE e1 s A' n c' A7 c7 G1.now).l.map (·.s) := List.mem_map.2 ⟨x, hx, rfl⟩
                have h6 : (nxE e1 s A' n c' A7 c7 G1.now).l.map (·.s) = sps e1.l ++ [s] := by simp [nxE, sps]
                rw [h6] at h5
                exact h5
              have h7 := chk_tags ((HOK.out.lst HQ.out).2.1 x.s h4).1
              omega))
            clear c410 c210 x10
            go_wp2_with fail
            refine CC.out.mono ?_
            rintro e w12 ⟨rfl, K12, Z12, m12, g12, R12⟩
            have HF := Lib.hid (And.intro g12 R12)
            clear g12 R12 CC hR11
            go_wp2_with fail
            go_ret2
            unfold RAddP
            rw [HAD2.out]
            refine ⟨rfl, K12, Z12, m12, (HG10.out.trans (Gro.refl (FrK.of_below (below_drewN (Below.refl _ w9) (1 + nq)) (Nat.le_refl _) K9))).trans HF.out.1, ?_⟩
            have h8 : ({ G with op := GSt.putIn ⟨s.tr, G.lst s, G.now⟩ G.op } : GSt).close (nxE e1 s A' n c' A7 c7 G1.now).t (sps (nxE e1 s A' n c' A7 c7 G1.now).l) = G.close s.tr (G.lst s) := by
              have h9 : (nxE e1 s A' n c' A7 c7 G1.now).t = s.tr := HE.out.2.2.1
              have h10 : sps (nxE e1 s A' n c' A7 c7 G1.now).l = G.lst s := by
                rw [← HPL.out.2]
                simp [nxE, sps]
              rw [h9, h10]
              unfold GSt.close
              simp only
              rw [delOf_putIn ⟨s.tr, G.lst s, G.now⟩ G.op]
            rw [← h8]
            exact HF.out.2
          · have hfull' : ¬G.cap ≤ (lx : Int) + 1 := by simpa using hfull
            have hfd : decide (G.cap ≤ (lx : Int) + 1) = false := by simpa using hfull
            have hfd2 : decide ((lx : Int) + 1 ≥ G.cap) = false := by simpa using hfull
            have hadd := HAD.out
            rw [if_neg hfull] at hadd
            have HAD2 := Lib.hid hadd
            clear hadd hfull
            go_wp2_with fail
            go_quiet (fail)
            clear c410 c210 x10
            go_wp2_with fail
            go_ret2
            unfold RAddP
            rw [HAD2.out]
            exact ⟨rfl, K9, Z9, m9, HG10.out.trans (Gro.refl (FrK.of_below (below_drewN (Below.refl _ w9).drew nq) (Nat.le_refl _) K9)), HR10.out.below (below_drewN (Below.refl _ w9).drew nq)⟩
end
end Go.Proofs.YtoojpagpkbcfjaaGreat


/- Layer 20, the document's side: the contracts to use; both sides by side. -/
namespace Go.Proofs.YtoojpagpkbcfjaaGreat
open Go.RowKit
/-- The document's gatherer at block F, k calls old: it says G. -/
def RgS (base : Nat) (w : World) (K Z : Nat → Prop) (F : Nat) (G : GSt) (k : Nat) : Prop := ∃ m, Rga base w K Z F G m ∧ G.Ok k ∧ G.all.length + G.op.length ≤ k + k
theorem closeDue_all_len : ∀ (f : Nat) (G : GSt), (GSt.closeDue f G).all.length + (GSt.closeDue f G).op.length ≤ G.all.length + G.op.length
  | 0, G => Nat.le_refl _
  | f + 1, G => by
    unfold GSt.closeDue
    cases hf : GSt.first G.op with
    | none => exact Nat.le_refl _
    | some x =>
      simp only
      split
      · have h1 := closeDue_all_len f (G.close x.t x.l)
        have h2 := delOf_lt (first_some hf).1
        have h3 : (G.close x.t x.l).all.length = G.all.length + 1 := by simp [GSt.close]
        rw [h3, close_op] at h1
        omega
      · exact Nat.le_refl _
theorem tick_all_len (G : GSt) (n : Int) : (G.tick n).1.all.length + (G.tick n).1.op.length ≤ G.all.length + G.op.length := by
  unfold GSt.tick
  split
  · exact Nat.le_refl _
  · exact closeDue_all_len _ _
theorem add_all_len (G : GSt) (s : Sp) : (G.add s).1.all.length + (G.add s).1.op.length ≤ G.all.length + G.op.length + 1 := by
  rw [GSt.add_eq]
  split
  · exact Nat.le_succ _
  · split
    · exact Nat.le_succ _
    · split
      · have h3 : (G.close s.tr (G.lst s)).all.length = G.all.length + 1 := by simp [GSt.close]
        show (G.close s.tr (G.lst s)).all.length + (G.close s.tr (G.lst s)).op.length ≤ _
        rw [h3, close_op]
        have := delOf_le s.tr G.op
        omega
      · have := putIn_length ⟨s.tr, G.lst s, G.now⟩ G.op
        show G.all.length + (GSt.putIn _ G.op).length ≤ _
        omega
section
variable {base F k : Nat} {w w' : World} {K K' Z Z' : Nat → Prop} {G : GSt}
theorem RgS.ok (h : RgS base w K Z F G k) : G.Ok k := by
  obtain ⟨m, h1, h2, h3⟩ := h
  exact h2
theorem RgS.lo (h : RgS base w K Z F G k) : ∀ b, K b → base ≤ b ∧ b < w.heap.size := by
  obtain ⟨m, h1, h2, h3⟩ := h
  exact h1.lo
theorem RgS.loZ (h : RgS base w K Z F G k) : ∀ b, Z b → b < w.heap.size := by
  obtain ⟨m, h1, h2, h3⟩ := h
  exact h1.loZ
theorem RgS.kz (h : RgS base w K Z F G k) : ∀ b, K b → ¬Z b := by
  obtain ⟨m, h1, h2, h3⟩ := h
  exact h1.kz
theorem RgS.keep (h : RgS base w K Z F G k) (hf : FrK w w' K') (hd : ∀ b, K b → ¬K' b) (hdz : ∀ b, Z b → ¬K' b) : RgS base w' K Z F G k := by
  obtain ⟨m, h1, h2, h3⟩ := h
  exact ⟨m, h1.keep hf hd hdz, h2, h3⟩
theorem RgS.below (h : RgS base w K Z F G k) (hb : Below w.heap.size w w') : RgS base w' K Z F G k := by
  obtain ⟨m, h1, h2, h3⟩ := h
  exact ⟨m, h1.below hb, h2, h3⟩
theorem RgS.mono {k' : Nat} (h : RgS base w K Z F G k) (hk : k ≤ k') : RgS base w K Z F G k' := by
  obtain ⟨m, h1, h2, h3⟩ := h
  exact ⟨m, h1, h2.mono hk, by omega⟩
theorem rsNew (w : World) (win cap : Int) (h : gaChk win cap = 0) : Calls Tryz.prog 7 #[.agg #[.int .i64 win, .int .i64 cap]] w fun e w' => ∃ F, e = .returned (.tuple #[ptV F, .int .i64 0]) ∧ RgS w.heap.size w' (fun b => w.heap.size ≤ b ∧ b < w'.heap.size) Kno F (GSt.new win cap) 0 ∧ Below w.heap.size w w' := by
  refine (rgNew w win cap h).mono ?_
  rintro e w' ⟨F, rfl, ⟨m, h1⟩, hb⟩
  exact ⟨F, rfl, ⟨m, h1, GSt.new_ok h, by simp [GSt.new]⟩, hb⟩
theorem rsAdd {s : Sp} {A : Option Addr} {n c : Nat} (h : RgS base w K Z F G k) (hk : k ≤ 1000) (ha : RbT w w.heap.size A s.tags) (hap : tgs s.tags ≠ [] → ∀ a, A = some a → ¬K a.block) (hn : s.tags.length = n) (hnl : n ≤ 9223372036854775807) :
    Calls Tryz.prog 17 #[ptV F, spV s A n c] w fun e w' => e = .returned (.tuple #[.int .i64 ((G.add s).2.1 : Nat), .int .i64 ((G.add s).2.2 : Nat)]) ∧ ∃ K' Z', Gro w w' K K' Z Z' ∧ RgS base w' K' Z' F (G.add s).1 (k + 1) := by
  obtain ⟨m, h1, h2, h3⟩ := h
  refine (rgAdd h1 h2 hk h3 ha hap hn hnl).mono ?_
  rintro e w' ⟨he, K', Z', m', hg, hR⟩
  exact ⟨he, K', Z', hg, m', hR, h2.add s, by have := add_all_len G s; omega⟩
theorem rsTick (h : RgS base w K Z F G k) (hk : k ≤ 1000) {n : Int} (hn : -9223372036854775808 ≤ n ∧ n ≤ 9223372036854775807) :
    Calls Tryz.prog 12 #[ptV F, .int .i64 n] w fun e w' => e = .returned (.int .i64 ((G.tick n).2 : Nat)) ∧ ∃ K' Z', Gro w w' K K' Z Z' ∧ RgS base w' K' Z' F (G.tick n).1 k := by
  obtain ⟨m, h1, h2, h3⟩ := h
  refine (rgTick h1 h2 hk h3 hn).mono ?_
  rintro e w' ⟨he, K', Z', m', hg, hR⟩
  exact ⟨he, K', Z', hg, m', hR, h2.tick n, Nat.le_trans (tick_all_len G n) h3⟩
/-- The document's Next. -/
def RsNextP (base : Nat) (w : World) (K Z : Nat → Prop) (F : Nat) (G : GSt) (k : Nat) (e : Ending) (w' : World) : Prop :=
  FrK w w' K ∧ RgS base w' K Z F G.next k ∧ ((G.cl = [] ∧ e = .returned (.tuple #[.agg #[.int .u64 0, .int .u64 0, .slice none 0 0], .int .i64 6])) ∨ ∃ t l cl c, G.cl = (t, l) :: cl ∧ e = .returned (.tuple #[clV c, .int .i64 0]) ∧ ClZ w' Z c ∧ c.t = t ∧ sps c.l = l)
theorem rsNext (h : RgS base w K Z F G k) (hk : k ≤ 1000) : Calls Tryz.prog 14 #[ptV F] w (RsNextP base w K Z F G k) := by
  obtain ⟨m, h1, h2, h3⟩ := h
  have hl := h1.ceN
  have hnum := h2.num
  have hcl := h1.clsE
  refine (rgNext h1 (by omega)).mono ?_
  rintro e w' ⟨he, hf⟩
  refine ⟨hf, ?_⟩
  cases hce : m.ce with
  | nil =>
    rw [hce] at he hcl
    simp only at he
    obtain ⟨he, hG⟩ := he
    have hn : G.next = G := next_nil hcl.symm
    rw [hn]
    exact ⟨⟨m, hG, h2, h3⟩, .inl ⟨hcl.symm, he⟩⟩
  | cons c ce =>
    rw [hce] at he hcl
    simp only at he
    obtain ⟨he, hz, cv', hG⟩ := he
    exact ⟨⟨_, hG, h2.next, h3⟩, .inr ⟨c.t, sps c.l, clsOf ce, c, hcl.symm, he, hz, rfl, rfl⟩⟩
/-- Next, where a closed trace waits. -/
theorem rsNext1 (h : RgS base w K Z F G k) (hk : k ≤ 1000) {t : Tr} {l : List Sp} {cl : List (Tr × List Sp)} {n : Nat} (hcl : G.cl = (t, l) :: cl) (hn : l.length = n) :
    Calls Tryz.prog 14 #[ptV F] w fun e w' => FrK w w' K ∧ RgS base w' K Z F G.next k ∧ ∃ A c l', e = .returned (.tuple #[.agg #[.int .u64 (t.hi : Nat), .int .u64 (t.lo : Nat), .slice A n c], .int .i64 0]) ∧ ClZ w' Z ⟨t, l', A, c⟩ ∧ sps l' = l ∧ l'.length = n := by
  refine (rsNext h hk).mono ?_
  rintro e w' ⟨hf, hG, ⟨h1, -⟩ | ⟨t', l1, cl1, c, h1, rfl, hz, ht, hl⟩⟩
  · rw [hcl] at h1
    cases h1
  · rw [hcl] at h1
    injection h1 with h1 _
    injection h1 with h1 h2
    subst h1 h2
    obtain ⟨ct, l', A, cc⟩ := c
    simp only at ht hl
    subst ht
    have hlen : l'.length = n := by rw [← sps_length, hl, hn]
    exact ⟨hf, hG, A, cc, l', by subst hlen; rfl, hz, hl, hlen⟩
theorem rsClosed (h : RgS base w K Z F G k) (hk : k ≤ 1000) : Calls Tryz.prog 20 #[ptV F] w (TrsP w (G.cl.map (·.1))) := by
  obtain ⟨m, h1, h2, h3⟩ := h
  have := h2.num
  exact rgClosed h1 (by omega)
theorem rsOpen (h : RgS base w K Z F G k) (hk : k ≤ 1000) : Calls Tryz.prog 22 #[ptV F] w (TrsP w (G.op.map (·.t))) := by
  obtain ⟨m, h1, h2, h3⟩ := h
  have := h2.num
  exact rgOpen h1 (by omega)
theorem rsEver (h : RgS base w K Z F G k) (hk : k ≤ 1000) (t : Tr) : Calls Tryz.prog 24 #[ptV F, trV t] w fun e w' => e = .returned (.bool (decide (t ∈ G.all))) ∧ Below w.heap.size w w' := by
  obtain ⟨m, h1, h2, h3⟩ := h
  exact rgEver h1 t (by omega)
theorem rsLate (h : RgS base w K Z F G k) : Calls Tryz.prog 26 #[ptV F] w fun e w' => e = .returned (.int .i64 (G.late : Nat)) ∧ Below w.heap.size w w' := by
  obtain ⟨m, h1, h2, h3⟩ := h
  exact rgLate h1
theorem rsNow (h : RgS base w K Z F G k) : Calls Tryz.prog 28 #[ptV F] w fun e w' => e = .returned (.int .i64 G.now) ∧ Below w.heap.size w w' := by
  obtain ⟨m, h1, h2, h3⟩ := h
  exact rgNow h1
theorem rsDue (h : RgS base w K Z F G k) (hk : k ≤ 1000) : Calls Tryz.prog 30 #[ptV F] w fun e w' => e = .returned (.int .i64 G.due) ∧ Below w.heap.size w w' := by
  obtain ⟨m, h1, h2, h3⟩ := h
  exact rgDue h1 h2 hk
end
/-- The code's gatherer and the document's, side by side: they say the same. -/
structure GrTw (b1 b2 : Nat) (w : World) (K1 Z1 : Nat → Prop) (F1 : Nat) (G1 : GSt) (k1 : Nat) (K2 Z2 : Nat → Prop) (F2 : Nat) (G2 : GSt) (k2 : Nat) : Prop where
  a : GaS b1 w K1 Z1 F1 G1 k1
  b : RgS b2 w K2 Z2 F2 G2 k2
  kk : ∀ b, K1 b → ¬K2 b
  kz : ∀ b, K1 b → ¬Z2 b
  zk : ∀ b, K2 b → ¬Z1 b
section
variable {b1 b2 F1 F2 k1 k2 : Nat} {w w' : World} {K1 Z1 K2 Z2 : Nat → Prop} {G1 G2 : GSt}
theorem GrTw.below (h : GrTw b1 b2 w K1 Z1 F1 G1 k1 K2 Z2 F2 G2 k2) (hb : Below w.heap.size w w') : GrTw b1 b2 w' K1 Z1 F1 G1 k1 K2 Z2 F2 G2 k2 := { h with a := h.a.below hb, b := h.b.below hb }
theorem GrTw.mono {k1' k2' : Nat} (h : GrTw b1 b2 w K1 Z1 F1 G1 k1 K2 Z2 F2 G2 k2) (h1 : k1 ≤ k1') (h2 : k2 ≤ k2') : GrTw b1 b2 w K1 Z1 F1 G1 k1' K2 Z2 F2 G2 k2' := { h with a := h.a.mono h1, b := h.b.mono h2 }
theorem GrTw.fst (h : GrTw b1 b2 w K1 Z1 F1 G1 k1 K2 Z2 F2 G2 k2) {K1' Z1' : Nat → Prop} {G1' : GSt} {k1' : Nat} (g : Gro w w' K1 K1' Z1 Z1') (a : GaS b1 w' K1' Z1' F1 G1' k1') : GrTw b1 b2 w' K1' Z1' F1 G1' k1' K2 Z2 F2 G2 k2 where
  a := a
  b := h.b.keep g.fr (fun b e f => h.kk b f e) fun b e f => h.kz b f e
  kk b e f := (g.kn b e).elim (fun e => h.kk b e f) fun e => by have := (h.b.lo b f).2; omega
  kz b e f := (g.kn b e).elim (fun e => h.kz b e f) fun e => by have := h.b.loZ b f; omega
  zk b e f := (g.zn b f).elim (fun f => h.zk b e f) fun f => by have := (h.b.lo b e).2; omega
theorem GrTw.snd (h : GrTw b1 b2 w K1 Z1 F1 G1 k1 K2 Z2 F2 G2 k2) {K2' Z2' : Nat → Prop} {G2' : GSt} {k2' : Nat} (g : Gro w w' K2 K2' Z2 Z2') (b : RgS b2 w' K2' Z2' F2 G2' k2') : GrTw b1 b2 w' K1 Z1 F1 G1 k1 K2' Z2' F2 G2' k2' where
  a := h.a.keep g.fr (fun b e f => h.kk b e f) fun b e f => h.zk b f e
  b := b
  kk b e f := (g.kn b f).elim (fun f => h.kk b e f) fun f => by have := (h.a.lo b e).2; omega
  kz b e f := (g.zn b f).elim (fun f => h.kz b e f) fun f => by have := (h.a.lo b e).2; omega
  zk b e f := (g.kn b e).elim (fun e => h.zk b e f) fun e => by have := h.a.loZ b f; omega
end
end Go.Proofs.YtoojpagpkbcfjaaGreat


/- Layer 20: what a round of GatherScript keeps: both gatherers side by side, and the call at hand in its box; the calls, told of it. -/
namespace Go.Proofs.YtoojpagpkbcfjaaGreat
open Go.RowKit
/-- The code's gatherer says G1, the document's G2; the call at hand lies in block r. -/
structure Tl (b1 b2 : Nat) (w0 : World) (F1 F2 r : Nat) (z : GAc) (K1 Z1 K2 Z2 : Nat → Prop) (G1 : GSt) (k1 : Nat) (G2 : GSt) (k2 : Nat) (W : World) : Prop where
  tw : GrTw b1 b2 W K1 Z1 F1 G1 k1 K2 Z2 F2 G2 k2
  hb : Below w0.heap.size w0 W
  bk : Bk W r 42 (gacC z).toArray
  n1 : ¬K1 r
  n2 : ¬K2 r
  lo1 : w0.heap.size ≤ b1
  lo2 : w0.heap.size ≤ b2
  h1 : k1 ≤ 1000
  h2 : k2 ≤ 1000
section
variable {b1 b2 F1 F2 r k1 k2 : Nat} {w0 W W' : World} {z : GAc} {K1 Z1 K2 Z2 : Nat → Prop} {G1 G2 : GSt}
theorem Tl.below (h : Tl b1 b2 w0 F1 F2 r z K1 Z1 K2 Z2 G1 k1 G2 k2 W) (hb : Below W.heap.size W W') : Tl b1 b2 w0 F1 F2 r z K1 Z1 K2 Z2 G1 k1 G2 k2 W' :=
  { h with tw := h.tw.below hb, hb := h.hb.trans (hb.mono h.hb.size), bk := h.bk.below hb h.bk.lt }
theorem Tl.drew (h : Tl b1 b2 w0 F1 F2 r z K1 Z1 K2 Z2 G1 k1 G2 k2 W) : Tl b1 b2 w0 F1 F2 r z K1 Z1 K2 Z2 G1 k1 G2 k2 W.drew := h.below (Below.refl _ W).drew
theorem Tl.mono {k1' k2' : Nat} (h : Tl b1 b2 w0 F1 F2 r z K1 Z1 K2 Z2 G1 k1 G2 k2 W) (a : k1 ≤ k1') (b : k2 ≤ k2') (a' : k1' ≤ 1000) (b' : k2' ≤ 1000) : Tl b1 b2 w0 F1 F2 r z K1 Z1 K2 Z2 G1 k1' G2 k2' W :=
  { h with tw := h.tw.mono a b, h1 := a', h2 := b' }
theorem Tl.fst (h : Tl b1 b2 w0 F1 F2 r z K1 Z1 K2 Z2 G1 k1 G2 k2 W) {K1' Z1' : Nat → Prop} {G1' : GSt} {k1' : Nat} (g : Gro W W' K1 K1' Z1 Z1') (a : GaS b1 W' K1' Z1' F1 G1' k1') (hk : k1' ≤ 1000) : Tl b1 b2 w0 F1 F2 r z K1' Z1' K2 Z2 G1' k1' G2 k2 W' :=
  { h with
    tw := h.tw.fst g a
    hb := h.hb.trans (g.fr.belowK (base := w0.heap.size) (fun b e => Nat.le_trans h.lo1 (h.tw.a.lo b e).1) h.hb.size)
    bk := g.fr.bk h.bk h.n1
    n1 := fun e => (g.kn r e).elim h.n1 fun e => absurd h.bk.lt (by omega)
    h1 := hk }
theorem Tl.snd (h : Tl b1 b2 w0 F1 F2 r z K1 Z1 K2 Z2 G1 k1 G2 k2 W) {K2' Z2' : Nat → Prop} {G2' : GSt} {k2' : Nat} (g : Gro W W' K2 K2' Z2 Z2') (a : RgS b2 W' K2' Z2' F2 G2' k2') (hk : k2' ≤ 1000) : Tl b1 b2 w0 F1 F2 r z K1 Z1 K2' Z2' G1 k1 G2' k2' W' :=
  { h with
    tw := h.tw.snd g a
    hb := h.hb.trans (g.fr.belowK (base := w0.heap.size) (fun b e => Nat.le_trans h.lo2 (h.tw.b.lo b e).1) h.hb.size)
    bk := g.fr.bk h.bk h.n2
    n2 := fun e => (g.kn r e).elim h.n2 fun e => absurd h.bk.lt (by omega)
    h2 := hk }
theorem Tl.ld (h : Tl b1 b2 w0 F1 F2 r z K1 Z1 K2 Z2 G1 k1 G2 k2 W) : (loadK 37 ⟨r, 1, none⟩).run Tryz.prog W = .ok (trV z.e.s.tr) W :=
  ldTrB (o := 1) (a := z.e.s.tr.hi) (b := z.e.s.tr.lo) h.bk rfl rfl
theorem Tl.cn (h : Tl b1 b2 w0 F1 F2 r z K1 Z1 K2 Z2 G1 k1 G2 k2 W) : W.cell? ⟨r, 12, none⟩ = some (.int .i64 z.n) := (h.bk.cell 12).trans rfl
/-- A list of traces that lies below. -/
def TrRd (W : World) (A : Option Addr) (l : List Tr) : Prop := Rd W W.heap.size A (flatR trL l)
theorem TrRd.below {A : Option Addr} {l : List Tr} (h : TrRd W A l) (hb : Below W.heap.size W W') : TrRd W' A l := Rd.more (Rd.below h hb) hb.size
theorem trs_of {w w' : World} {l : List Tr} {n : Nat} {e : Ending} (hn : l.length = n) (h : TrsP w l e w') : ∃ A c, e = .returned (.slice A n c) ∧ TrRd w' A l ∧ Below w.heap.size w w' := by
  obtain ⟨A, c, rfl, own, hb⟩ := h
  subst hn
  exact ⟨A, c, rfl, Rd.of_own own, hb⟩
theorem tlClosed1 {n : Nat} (h : Tl b1 b2 w0 F1 F2 r z K1 Z1 K2 Z2 G1 k1 G2 k2 W) (hn : (G1.cl.map (·.1)).length = n) : Calls Tryz.prog 19 #[ptV F1] W fun e W' => ∃ A c, e = .returned (.slice A n c) ∧ TrRd W' A (G1.cl.map (·.1)) ∧ Below W.heap.size W W' :=
  (seClosed h.tw.a h.h1).mono fun e W' p => trs_of hn p
theorem tlClosed2 {n : Nat} (h : Tl b1 b2 w0 F1 F2 r z K1 Z1 K2 Z2 G1 k1 G2 k2 W) (hn : (G2.cl.map (·.1)).length = n) : Calls Tryz.prog 20 #[ptV F2] W fun e W' => ∃ A c, e = .returned (.slice A n c) ∧ TrRd W' A (G2.cl.map (·.1)) ∧ Below W.heap.size W W' :=
  (rsClosed h.tw.b h.h2).mono fun e W' p => trs_of hn p
theorem tlOpen1 {n : Nat} (h : Tl b1 b2 w0 F1 F2 r z K1 Z1 K2 Z2 G1 k1 G2 k2 W) (hn : (G1.op.map (·.t)).length = n) : Calls Tryz.prog 21 #[ptV F1] W fun e W' => ∃ A c, e = .returned (.slice A n c) ∧ TrRd W' A (G1.op.map (·.t)) ∧ Below W.heap.size W W' :=
  (seOpen h.tw.a h.h1).mono fun e W' p => trs_of hn p
theorem tlOpen2 {n : Nat} (h : Tl b1 b2 w0 F1 F2 r z K1 Z1 K2 Z2 G1 k1 G2 k2 W) (hn : (G2.op.map (·.t)).length = n) : Calls Tryz.prog 22 #[ptV F2] W fun e W' => ∃ A c, e = .returned (.slice A n c) ∧ TrRd W' A (G2.op.map (·.t)) ∧ Below W.heap.size W W' :=
  (rsOpen h.tw.b h.h2).mono fun e W' p => trs_of hn p
theorem tlSame {A1 A2 : Option Addr} {c1 c2 n : Nat} {l : List Tr} (h1 : TrRd W A1 l) (h2 : TrRd W A2 l) (hn : l.length = n) (hnm : n ≤ 9223372036854775807) : Calls Tryz.prog 18 #[.slice A1 n c1, .slice A2 n c2] W fun e W' => e = .returned (.bool true) ∧ Below W.heap.size W W' := by
  have h := kitTraces (c1 := c1) (c2 := c2) (B := W.heap.size) W h1 h2 hn hn (Nat.le_refl _) hnm hnm
  rw [decide_eq_true rfl] at h
  exact h
theorem tlEver1 {t : Tr} {q : Bool} (h : Tl b1 b2 w0 F1 F2 r z K1 Z1 K2 Z2 G1 k1 G2 k2 W) (hq : decide (t ∈ G1.all) = q) : Calls Tryz.prog 23 #[ptV F1, trV t] W fun e W' => e = .returned (.bool q) ∧ Below W.heap.size W W' := by
  have h := seEver h.tw.a t
  rw [hq] at h
  exact h
theorem tlEver2 {t : Tr} {q : Bool} (h : Tl b1 b2 w0 F1 F2 r z K1 Z1 K2 Z2 G1 k1 G2 k2 W) (hq : decide (t ∈ G2.all) = q) : Calls Tryz.prog 24 #[ptV F2, trV t] W fun e W' => e = .returned (.bool q) ∧ Below W.heap.size W W' := by
  have h := rsEver h.tw.b h.h2 t
  rw [hq] at h
  exact h
theorem tlLate1 {v : Nat} (h : Tl b1 b2 w0 F1 F2 r z K1 Z1 K2 Z2 G1 k1 G2 k2 W) (hq : G1.late = v) : Calls Tryz.prog 25 #[ptV F1] W fun e W' => e = .returned (.int .i64 (v : Nat)) ∧ Below W.heap.size W W' := by
  have h := seLate h.tw.a
  rw [hq] at h
  exact h
theorem tlLate2 {v : Nat} (h : Tl b1 b2 w0 F1 F2 r z K1 Z1 K2 Z2 G1 k1 G2 k2 W) (hq : G2.late = v) : Calls Tryz.prog 26 #[ptV F2] W fun e W' => e = .returned (.int .i64 (v : Nat)) ∧ Below W.heap.size W W' := by
  have h := rsLate h.tw.b
  rw [hq] at h
  exact h
theorem tlNow1 {v : Int} (h : Tl b1 b2 w0 F1 F2 r z K1 Z1 K2 Z2 G1 k1 G2 k2 W) (hq : G1.now = v) : Calls Tryz.prog 27 #[ptV F1] W fun e W' => e = .returned (.int .i64 v) ∧ Below W.heap.size W W' := by
  have h := seNow h.tw.a
  rw [hq] at h
  exact h
theorem tlNow2 {v : Int} (h : Tl b1 b2 w0 F1 F2 r z K1 Z1 K2 Z2 G1 k1 G2 k2 W) (hq : G2.now = v) : Calls Tryz.prog 28 #[ptV F2] W fun e W' => e = .returned (.int .i64 v) ∧ Below W.heap.size W W' := by
  have h := rsNow h.tw.b
  rw [hq] at h
  exact h
theorem tlDue1 {v : Int} (h : Tl b1 b2 w0 F1 F2 r z K1 Z1 K2 Z2 G1 k1 G2 k2 W) (hq : G1.due = v) : Calls Tryz.prog 29 #[ptV F1] W fun e W' => e = .returned (.int .i64 v) ∧ Tl b1 b2 w0 F1 F2 r z K1 Z1 K2 Z2 G1 k1 G2 k2 W' := by
  have h2 := seDue h.tw.a h.h1
  rw [hq] at h2
  exact h2.mono fun e W' p => ⟨p.1, h.fst (Gro.refl p.2.1) p.2.2 h.h1⟩
theorem tlDue2 {v : Int} (h : Tl b1 b2 w0 F1 F2 r z K1 Z1 K2 Z2 G1 k1 G2 k2 W) (hq : G2.due = v) : Calls Tryz.prog 30 #[ptV F2] W fun e W' => e = .returned (.int .i64 v) ∧ Below W.heap.size W W' := by
  have h := rsDue h.tw.b h.h2
  rw [hq] at h
  exact h
theorem tlTick1 {n : Int} {v : Nat} (h : Tl b1 b2 w0 F1 F2 r z K1 Z1 K2 Z2 G1 k1 G2 k2 W) (hn : I64g n) (hv : (G1.tick n).2 = v) : Calls Tryz.prog 11 #[ptV F1, .int .i64 n] W fun e W' => e = .returned (.int .i64 (v : Nat)) ∧ ∃ K1' Z1', Tl b1 b2 w0 F1 F2 r z K1' Z1' K2 Z2 (G1.tick n).1 k1 G2 k2 W' := by
  have h2 := seTick h.tw.a h.h1 hn
  rw [hv] at h2
  refine h2.mono ?_
  rintro e W' ⟨he, K', Z', g, a⟩
  exact ⟨he, K', Z', h.fst g a h.h1⟩
theorem tlTick2 {n : Int} {v : Nat} (h : Tl b1 b2 w0 F1 F2 r z K1 Z1 K2 Z2 G1 k1 G2 k2 W) (hn : I64g n) (hv : (G2.tick n).2 = v) : Calls Tryz.prog 12 #[ptV F2, .int .i64 n] W fun e W' => e = .returned (.int .i64 (v : Nat)) ∧ ∃ K2' Z2', Tl b1 b2 w0 F1 F2 r z K1 Z1 K2' Z2' G1 k1 (G2.tick n).1 k2 W' := by
  have h2 := rsTick h.tw.b h.h2 hn
  rw [hv] at h2
  refine h2.mono ?_
  rintro e W' ⟨he, K', Z', g, a⟩
  exact ⟨he, K', Z', h.snd g a h.h2⟩
theorem tlAdd1 {s : Sp} {A : Option Addr} {n c x y : Nat} (h : Tl b1 b2 w0 F1 F2 r z K1 Z1 K2 Z2 G1 k1 G2 k2 W) (hk : k1 < 1000) (he : ElOk w0 w0.heap.size ⟨s, A, n, c⟩) (hx : (G1.add s).2.1 = x) (hy : (G1.add s).2.2 = y) :
    Calls Tryz.prog 16 #[ptV F1, spV s A n c] W fun e W' => e = .returned (.tuple #[.int .i64 (x : Nat), .int .i64 (y : Nat)]) ∧ ∃ K1' Z1', Tl b1 b2 w0 F1 F2 r z K1' Z1' K2 Z2 (G1.add s).1 (k1 + 1) G2 k2 W' := by
  have hel := he.below h.hb
  have h2 := seAdd (c := c) h.tw.a h.h1 (Rd.more hel.rd h.hb.size) hel.len hel.max
  rw [hx, hy] at h2
  refine h2.mono ?_
  rintro e W' ⟨he, K', Z', g, a⟩
  exact ⟨he, K', Z', h.fst g a hk⟩
theorem tlAdd2 {s : Sp} {A : Option Addr} {n c x y : Nat} (h : Tl b1 b2 w0 F1 F2 r z K1 Z1 K2 Z2 G1 k1 G2 k2 W) (hk : k2 < 1000) (he : ElOk w0 w0.heap.size ⟨s, A, n, c⟩) (hx : (G2.add s).2.1 = x) (hy : (G2.add s).2.2 = y) :
    Calls Tryz.prog 17 #[ptV F2, spV s A n c] W fun e W' => e = .returned (.tuple #[.int .i64 (x : Nat), .int .i64 (y : Nat)]) ∧ ∃ K2' Z2', Tl b1 b2 w0 F1 F2 r z K1 Z1 K2' Z2' G1 k1 (G2.add s).1 (k2 + 1) W' := by
  have hel := he.below h.hb
  have hlo := h.lo2
  have h2 := rsAdd (c := c) h.tw.b h.h2 (Rd.more hel.rd h.hb.size) (fun hne a ha e => by
    obtain ⟨b, o, hA, hb, -⟩ := he.rd hne
    rw [ha] at hA
    injection hA with hA
    subst hA
    have := (h.tw.b.lo _ e).1
    simp only at this hb
    omega) hel.len hel.max
  rw [hx, hy] at h2
  refine h2.mono ?_
  rintro e W' ⟨he, K', Z', g, a⟩
  exact ⟨he, K', Z', h.snd g a hk⟩
theorem tlNextNil1 (h : Tl b1 b2 w0 F1 F2 r z K1 Z1 K2 Z2 G1 k1 G2 k2 W) (hcl : G1.cl = []) : Calls Tryz.prog 13 #[ptV F1] W fun e W' => e = .returned (.tuple #[.agg #[.int .u64 0, .int .u64 0, .slice none 0 0], .int .i64 6]) ∧ FrK W W' K1 ∧ Tl b1 b2 w0 F1 F2 r z K1 Z1 K2 Z2 G1.next k1 G2 k2 W' := by
  refine (seNext h.tw.a h.h1).mono ?_
  rintro e W' ⟨f2, ga, ⟨-, rfl⟩ | ⟨t, l', cl, cc, h1, -⟩⟩
  · exact ⟨rfl, f2, h.fst (Gro.refl f2) ga h.h1⟩
  · rw [hcl] at h1
    cases h1
theorem tlNextNil2 (h : Tl b1 b2 w0 F1 F2 r z K1 Z1 K2 Z2 G1 k1 G2 k2 W) (hcl : G2.cl = []) : Calls Tryz.prog 14 #[ptV F2] W fun e W' => e = .returned (.tuple #[.agg #[.int .u64 0, .int .u64 0, .slice none 0 0], .int .i64 6]) ∧ FrK W W' K2 ∧ Tl b1 b2 w0 F1 F2 r z K1 Z1 K2 Z2 G1 k1 G2.next k2 W' := by
  refine (rsNext h.tw.b h.h2).mono ?_
  rintro e W' ⟨f2, ga, ⟨-, rfl⟩ | ⟨t, l', cl, cc, h1, -⟩⟩
  · exact ⟨rfl, f2, h.snd (Gro.refl f2) ga h.h2⟩
  · rw [hcl] at h1
    cases h1
theorem tlNext1 {t : Tr} {l : List Sp} {cl : List (Tr × List Sp)} {n : Nat} (h : Tl b1 b2 w0 F1 F2 r z K1 Z1 K2 Z2 G1 k1 G2 k2 W) (hcl : G1.cl = (t, l) :: cl) (hn : l.length = n) :
    Calls Tryz.prog 13 #[ptV F1] W fun e W' => FrK W W' K1 ∧ Tl b1 b2 w0 F1 F2 r z K1 Z1 K2 Z2 G1.next k1 G2 k2 W' ∧ ∃ A c l', e = .returned (.tuple #[.agg #[.int .u64 (t.hi : Nat), .int .u64 (t.lo : Nat), .slice A n c], .int .i64 0]) ∧ ClZ W' Z1 ⟨t, l', A, c⟩ ∧ sps l' = l ∧ l'.length = n := by
  refine (seNext1 h.tw.a h.h1 hcl hn).mono ?_
  rintro e W' ⟨f2, ga, A, c, l', he, hz, hs, hl⟩
  exact ⟨f2, h.fst (Gro.refl f2) ga h.h1, A, c, l', he, hz, hs, hl⟩
theorem tlNext2 {t : Tr} {l : List Sp} {cl : List (Tr × List Sp)} {n : Nat} (h : Tl b1 b2 w0 F1 F2 r z K1 Z1 K2 Z2 G1 k1 G2 k2 W) (hcl : G2.cl = (t, l) :: cl) (hn : l.length = n) :
    Calls Tryz.prog 14 #[ptV F2] W fun e W' => FrK W W' K2 ∧ Tl b1 b2 w0 F1 F2 r z K1 Z1 K2 Z2 G1 k1 G2.next k2 W' ∧ ∃ A c l', e = .returned (.tuple #[.agg #[.int .u64 (t.hi : Nat), .int .u64 (t.lo : Nat), .slice A n c], .int .i64 0]) ∧ ClZ W' Z2 ⟨t, l', A, c⟩ ∧ sps l' = l ∧ l'.length = n := by
  refine (rsNext1 h.tw.b h.h2 hcl hn).mono ?_
  rintro e W' ⟨f2, ga, A, c, l', he, hz, hs, hl⟩
  exact ⟨f2, h.snd (Gro.refl f2) ga h.h2, A, c, l', he, hz, hs, hl⟩
end
end Go.Proofs.YtoojpagpkbcfjaaGreat


/- Layer 20: the walk of GatherScript: whatever comes, the code's gatherer and the document's say the same. Printed by tools/genGatherScript.py. -/
namespace Go.Proofs.YtoojpagpkbcfjaaGreat
open Go.RowKit
attribute [local go_sem ↓] storeKA_shut loadTr_shut loadSp_shut loadAc_shut storeKG_shut
theorem gaSetupQ {q : Nat} (w : World) (win cap : Int) (hq : gaChk win cap = q) : Calls Tryz.prog 8 #[.agg #[.int .i64 win, .int .i64 cap]] w fun e w' => e = .returned (.int .i64 (q : Nat)) ∧ Below w.heap.size w w' := by
  have h := gaSetup w win cap
  rw [hq] at h
  exact h
theorem rgSetupQ {q : Nat} (w : World) (win cap : Int) (hq : gaChk win cap = q) : Calls Tryz.prog 9 #[.agg #[.int .i64 win, .int .i64 cap]] w fun e w' => e = .returned (.int .i64 (q : Nat)) ∧ Below w.heap.size w w' := by
  have h := rgSetup w win cap
  rw [hq] at h
  exact h
set_option maxRecDepth 100000 in
set_option maxHeartbeats 40000000 in
theorem gatherScript_walk (win cap : Int) (A : Option Addr) (n c : Nat) (l : List GAc) (w : World) (_hs : I64g win ∧ I64g cap) (hl : InGActs w A n c l) :
    Calls Tryz.prog 3 #[.agg #[.int .i64 win, .int .i64 cap], .slice A n c] w fun e w' => e = .returned (.bool true) ∧ Below w.heap.size w w' := by
  have b1 := Bk.new w 23 #[.int .i64 win, .int .i64 cap]
  have hb1 : Below w.heap.size w (w.alloc (.cells #[.int .i64 win, .int .i64 cap] 23)) := (Below.refl _ w).alloc (Nat.le_refl _) _
  obtain ⟨w1, e1⟩ : ∃ w1, w.alloc (.cells #[.int .i64 win, .int .i64 cap] 23) = w1 := ⟨_, rfl⟩
  obtain ⟨g1, hg1⟩ : ∃ g1, w.heap.size = g1 := ⟨_, rfl⟩
  rw [e1] at b1 hb1
  rw [hg1] at b1
  have HB1 := Lib.hid hb1
  have BK1 := Lib.hid b1
  have E1 := Lib.hid e1
  have HG := Lib.hid hg1
  have HL := Lib.hid hl
  have hnm := hl.cap
  have hnm2 := hl.max
  simp only [maxLen] at hnm2
  clear b1 hb1 e1 hg1 hl _hs
  go_enter Tryz.func3, Tryz.ntmps3
  go_wp2_with fail
  rw [E1.out, HG.out]
  refine (gaLives w1).mono ?_
  rintro e w2 ⟨rfl, hb2⟩
  have HB2 := Lib.hid (HB1.out.trans (hb2.mono HB1.out.size))
  have BK2 := Lib.hid (BK1.out.below hb2 BK1.out.lt)
  clear hb2
  go_wp2_with fail
  refine (gaSmall (B := w.heap.size) w2 (Rd.below HL.out.rd HB2.out) HL.out.len HB2.out.size (by simp only [maxLen]; omega) fun z hz => (HL.out.ok z hz).el.below HB2.out).mono ?_
  rintro e w3 ⟨⟨q, rfl, hq⟩, hb3⟩
  have HB3 := Lib.hid (HB2.out.trans (hb3.mono HB2.out.size))
  have BK3 := Lib.hid (BK2.out.below hb3 BK2.out.lt)
  clear hb3
  cases q with
  | false =>
    go_wp2_with fail
    go_ret
    exact ⟨rfl, HB3.out⟩
  | true =>
  have hn150 := hq rfl
  clear hq
  have k30 : w3.cell? ⟨g1, 0, none⟩ = some (.int .i64 win) := (BK3.out.cell 0).trans rfl
  have k31 : w3.cell? ⟨g1, 1, none⟩ = some (.int .i64 cap) := (BK3.out.cell 1).trans rfl
  obtain ⟨q, hq⟩ : ∃ q : Nat, gaChk win cap = q := ⟨_, rfl⟩
  have HQ0 := Lib.hid hq
  by_cases hchk : gaChk win cap = 0
  case neg =>
    have hqn : q ≠ 0 := fun e => hchk (hq.trans e)
    go_wp2_with fail
    refine (gaNewBad w3 win cap hchk).mono ?_
    rintro e w4 ⟨rfl, hb4⟩
    have HB4 := Lib.hid (HB3.out.trans (hb4.mono HB3.out.size))
    have b4 := BK3.out.below hb4 BK3.out.lt
    have k40 : w4.cell? ⟨g1, 0, none⟩ = some (.int .i64 win) := (b4.cell 0).trans rfl
    have k41 : w4.cell? ⟨g1, 1, none⟩ = some (.int .i64 cap) := (b4.cell 1).trans rfl
    have B4 := Lib.hid b4
    clear b4 hb4 k30 k31
    rw [hq]
    go_wp2_with fail
    refine (rgNewBad w4 win cap hchk).mono ?_
    rintro e w5 ⟨rfl, hb5⟩
    have hbx := HB4.out.trans (hb5.mono HB4.out.size)
    have bkx := B4.out.below hb5 B4.out.lt
    have hb0 : Below w.heap.size w w5.drew := below_drewN hbx 1
    have bk0 : Bk w5.drew g1 23 #[.int .i64 win, .int .i64 cap] := bkx
    clear k40 k41 hb5 hchk hbx bkx
    rw [hq]
    clear hq hqn
    go_wp2_with fail
    go_region_held3 (fun W => W.cell? ⟨g1, 0, none⟩ = some (.int .i64 win) ∧ W.cell? ⟨g1, 1, none⟩ = some (.int .i64 cap))
      (exact ⟨((by assumption : Bk _ g1 23 _).cell 0).trans rfl, ((by assumption : Bk _ g1 23 _).cell 1).trans rfl⟩)
      (first
        | (go_at_call 8
           refine (gaSetupQ w5.drew win cap HQ0.out).mono ?_
           rintro e w6 ⟨rfl, b6⟩
           have bk1 := bk0.below b6 bk0.lt
           have hb1 := hb0.trans (b6.mono hb0.size))
        | (go_at_call 9
           refine (rgSetupQ w6 win cap HQ0.out).mono ?_
           rintro e w7 ⟨rfl, b7⟩
           have bk2 := bk1.below b7 bk1.lt
           have hb2 := hb1.trans (b7.mono hb1.size))
        | fail)
    all_goals go_wp2_with fail
    all_goals go_ret
    all_goals exact ⟨rfl, hb2⟩
  clear hq
  go_wp2_with fail
  refine (seNew w3 win cap hchk).mono ?_
  rintro e w4 ⟨F1, rfl, h4, hb4⟩
  have HB4 := Lib.hid (HB3.out.trans (hb4.mono HB3.out.size))
  have b4 := BK3.out.below hb4 BK3.out.lt
  have k40 : w4.cell? ⟨g1, 0, none⟩ = some (.int .i64 win) := (b4.cell 0).trans rfl
  have k41 : w4.cell? ⟨g1, 1, none⟩ = some (.int .i64 cap) := (b4.cell 1).trans rfl
  have H4 := Lib.hid h4
  have B4 := Lib.hid b4
  clear k30 k31 b4 hb4 h4
  go_wp2_with fail
  refine (rsNew w4 win cap hchk).mono ?_
  rintro e w5 ⟨F2, rfl, h5, hb5⟩
  have HB5 := Lib.hid (HB4.out.trans (hb5.mono HB4.out.size))
  have TW : Hid (∃ G K1 Z1 K2 Z2, GrTw w3.heap.size w4.heap.size w5 K1 Z1 F1 G 0 K2 Z2 F2 G 0) := Lib.hid ⟨_, _, _, _, _, ⟨H4.out.below hb5, h5, fun b e f => by have := e.2; have := f.1; omega, fun b _ f => f, fun b _ f => f⟩⟩
  have bkx := B4.out.below hb5 B4.out.lt
  obtain ⟨b1, hb1⟩ : ∃ b1, w3.heap.size = b1 := ⟨_, rfl⟩
  obtain ⟨b2, hb2⟩ : ∃ b2, w4.heap.size = b2 := ⟨_, rfl⟩
  have hwb : w.heap.size ≤ b1 ∧ w.heap.size ≤ b2 := ⟨by rw [← hb1]; exact HB3.out.size, by rw [← hb2]; exact HB4.out.size⟩
  rw [hb1, hb2] at TW
  have HWB := Lib.hid hwb
  have hb0 : Below w.heap.size w w5.drew := below_drewN HB5.out 1
  have hy0 : Below w5.heap.size w5 w5.drew := (Below.refl _ w5).drew
  have bk0 : Bk w5.drew g1 23 #[.int .i64 win, .int .i64 cap] := bkx
  clear k40 k41 h5 hb5 hb1 hb2 hwb hchk bkx
  go_wp2_with fail
  go_region_held3 (fun W => W.cell? ⟨g1, 0, none⟩ = some (.int .i64 win) ∧ W.cell? ⟨g1, 1, none⟩ = some (.int .i64 cap))
    (exact ⟨((by assumption : Bk _ g1 23 _).cell 0).trans rfl, ((by assumption : Bk _ g1 23 _).cell 1).trans rfl⟩)
    (first
      | (go_at_call 8
         refine (gaSetupQ w5.drew win cap HQ0.out).mono ?_
         rintro e w6 ⟨rfl, b6⟩
         have bk1 := bk0.below b6 bk0.lt
         have hb1 := hb0.trans (b6.mono hb0.size)
         have hy1 := hy0.trans (b6.mono hy0.size))
      | (go_at_call 9
         refine (rgSetupQ w6 win cap HQ0.out).mono ?_
         rintro e w7 ⟨rfl, b7⟩
         have bk2 := bk1.below b7 bk1.lt
         have hb2 := hb1.trans (b7.mono hb1.size)
         have hy2 := hy1.trans (b7.mono hy1.size))
      | fail)
  have TW7 : Hid (∃ G K1 Z1 K2 Z2, GrTw b1 b2 w7 K1 Z1 F1 G 0 K2 Z2 F2 G 0 ∧ Below w.heap.size w w7) := Lib.hid (by
    obtain ⟨G, K1, Z1, K2, Z2, h⟩ := TW.out
    exact ⟨G, K1, Z1, K2, Z2, h.below hy2, hb2⟩)
  clear TW bk0 bk1 bk2 hb0 hb1 hb2 hy0 hy1 hy2 b6 b7
  go_wp2_with fail
  go_loopw [9] (fun i_ wr => ∃ j : Nat, j ≤ n ∧ i_ = .int .i64 j ∧ Hid (∃ G K1 Z1 K2 Z2, GrTw b1 b2 wr K1 Z1 F1 G j K2 Z2 F2 G j ∧ Below w.heap.size w wr)) (fun i_ _ => n - (intOf i_).toNat)
  case atStart => exact ⟨0, Nat.zero_le _, rfl, TW7⟩
  case round =>
    obtain ⟨j, hj, rfl, HR⟩ := hrel
    by_cases hlt : j < n
    case neg =>
      have hlt' : ¬ (j : Int) < (n : Int) := by omega
      obtain ⟨G, K1, Z1, K2, Z2, T0, B0⟩ := HR.out
      have BF := Lib.hid B0
      clear T0 B0
      go_wp2_with fail
      go_ret
      exact ⟨rfl, BF.out⟩
    have hlt' : (j : Int) < (n : Int) := by omega
    obtain ⟨G, K1, Z1, K2, Z2, T0, B0⟩ := HR.out
    clear HR
    obtain ⟨z, hz⟩ : ∃ z, l[j]? = some z := ⟨_, List.getElem?_eq_getElem (by rw [HL.out.len]; exact hlt)⟩
    have hzm := List.mem_of_getElem? hz
    have hzok := HL.out.ok z hzm
    obtain ⟨b, o, rfl, hbl, hc⟩ := flatR_at gacC_length (by omega) (Rd.below HL.out.rd B0) hz
    have l1 := ldAc (w := wr) (b := b) (o := o + j * 13) (z := z) fun i hi => by
      rw [Nat.add_assoc]
      exact hc i hi
    obtain ⟨x1, s1, k1, f1⟩ := acBox z (Bk.new wr 42 #[.int .i64 0, .int .u64 0, .int .u64 0, .int .u64 0, .int .u64 0, .string ⟨#[]⟩, .string ⟨#[]⟩, .int .i64 0, .int .i64 0, .int .i64 0, .bool false, .slice none 0 0, .int .i64 0]) rfl
    have F1x : FrK wr x1 Kno := ((FrK.refl wr Kno).alloc _).trans f1 fun b hb e => absurd (show b = wr.heap.size from e) (by omega)
    have bx1 := F1x.below (Nat.le_refl _) fun _ e => e.elim
    have T1 := T0.below bx1
    obtain ⟨r, hr⟩ : ∃ r, wr.heap.size = r := ⟨_, rfl⟩
    have nk1 : ¬K1 r := fun e => by have := (T0.a.lo r e).2; omega
    have nk2 : ¬K2 r := fun e => by have := (T0.b.lo r e).2; omega
    rw [hr] at s1 k1
    have TL : Hid (Tl b1 b2 w F1 F2 r z K1 Z1 K2 Z2 G j G j x1) := Lib.hid ⟨T1, B0.trans (bx1.mono B0.size), k1, nk1, nk2, HWB.out.1, HWB.out.2, by omega, by omega⟩
    have s1' : (storeKA 42 ⟨r, 0, none⟩ (gacV z)).run Tryz.prog (wr.alloc (.cells #[.int .i64 0, .int .u64 0, .int .u64 0, .int .u64 0, .int .u64 0, .string ⟨#[]⟩, .string ⟨#[]⟩, .int .i64 0, .int .i64 0, .int .i64 0, .bool false, .slice none 0 0, .int .i64 0] 42)) = .ok () x1 := s1
    have c10 : x1.cell? ⟨r, 0, none⟩ = some (.int .i64 z.kind) := (TL.out.bk.cell 0).trans rfl
    have HZ := Lib.hid hzok
    have CP := Lib.hid (kitPick z.kind 4 x1 (by omega) (by omega))
    obtain ⟨kd, hkd⟩ : ∃ kd, z.kind % ((4 : Nat) : Int) = kd := ⟨_, rfl⟩
    rw [hkd] at CP
    clear hkd s1 k1 f1 F1x T0 B0 hz hzm hzok hc hbl bx1 T1 nk1 nk2
    go_wp2_with fail
    refine CP.out.mono ?_
    rintro e xp ⟨rfl, rfl⟩
    clear CP l1 s1' c10
    by_cases hk2 : kd = 2
    · subst hk2
      obtain ⟨v, hv⟩ : ∃ v, (G.tick z.n).2 = v := ⟨_, rfl⟩
      have HV := Lib.hid hv
      have t0 := TL.out.drew
      clear hv TL
      go_wp2_with fail
      go_region_held3 (fun W => W.cell? ⟨r, 12, none⟩ = some (.int .i64 z.n))
        (exact Tl.cn (by assumption))
        (first
          | (go_at_call 11
             refine (tlTick1 t0 HZ.out.n HV.out).mono ?_
             rintro e y1 ⟨rfl, K1', Z1', t1⟩)
          | (go_at_call 12
             refine (tlTick2 t1 HZ.out.n HV.out).mono ?_
             rintro e y2 ⟨rfl, K2', Z2', t2⟩)
          | fail)
      obtain ⟨G5, hG5⟩ : ∃ G5, (G.tick z.n).1 = G5 := ⟨_, rfl⟩
      rw [hG5] at t2
      have TT := Lib.hid (t2.mono (Nat.le_succ j) (Nat.le_succ j) (by omega) (by omega))
      clear t0 t1 t2 hG5 HV
      go_wp2_with fail
      have t0 := TT.out.drew
      clear TT
      obtain ⟨nc, hnc⟩ : ∃ nc, (G5.cl.map (·.1)).length = nc := ⟨_, rfl⟩
      obtain ⟨no, hno⟩ : ∃ no, (G5.op.map (·.t)).length = no := ⟨_, rfl⟩
      obtain ⟨qe, hqe⟩ : ∃ qe, decide (z.e.s.tr ∈ G5.all) = qe := ⟨_, rfl⟩
      obtain ⟨lv, hlv⟩ : ∃ lv, G5.late = lv := ⟨_, rfl⟩
      obtain ⟨nw, hnw⟩ : ∃ nw, G5.now = nw := ⟨_, rfl⟩
      obtain ⟨dv, hdv⟩ : ∃ dv, G5.due = dv := ⟨_, rfl⟩
      have hm : nc ≤ 9223372036854775807 ∧ no ≤ 9223372036854775807 := by
        rw [← hnc, ← hno, List.length_map, List.length_map]
        have := t0.tw.a.ok.num
        omega
      have HNC := Lib.hid hnc
      have HNO := Lib.hid hno
      have HQ := Lib.hid hqe
      have HLV := Lib.hid hlv
      have HNW := Lib.hid hnw
      have HDV := Lib.hid hdv
      have HM := Lib.hid hm
      clear hnc hno hqe hlv hnw hdv hm
      go_wp2_with fail
      go_region_held3 (fun W => (loadK 37 ⟨r, 1, none⟩).run Tryz.prog W = .ok (trV z.e.s.tr) W)
          (exact Tl.ld (by assumption))
          (first
            | (go_at_call 19
               refine (tlClosed1 t0 HNC.out).mono ?_
               rintro e y1 ⟨A7, c7, rfl, r7, hb1⟩
               have t1 := t0.below hb1)
            | (go_at_call 20
               refine (tlClosed2 t1 HNC.out).mono ?_
               rintro e y2 ⟨A8, c8, rfl, r8, hb2⟩
               have t2 := t1.below hb2
               have r7b := r7.below hb2)
            | (go_at_call_of 18 (Value.slice A7 nc c7)
               refine (tlSame r7b r8 HNC.out HM.out.1).mono ?_
               rintro e y3 ⟨rfl, hb3⟩
               have t3 := t2.below hb3)
            | (go_at_call 21
               refine (tlOpen1 t3 HNO.out).mono ?_
               rintro e y4 ⟨A9, c9, rfl, r9, hb4⟩
               have t4 := t3.below hb4)
            | (go_at_call 22
               refine (tlOpen2 t4 HNO.out).mono ?_
               rintro e y5 ⟨A10, c10, rfl, r10, hb5⟩
               have t5 := t4.below hb5
               have r9b := r9.below hb5)
            | (go_at_call_of 18 (Value.slice A9 no c9)
               refine (tlSame r9b r10 HNO.out HM.out.2).mono ?_
               rintro e y6 ⟨rfl, hb6⟩
               have t6 := t5.below hb6)
            | (go_at_call 23
               refine (tlEver1 t6 HQ.out).mono ?_
               rintro e y7 ⟨rfl, hb7⟩
               have t7 := t6.below hb7)
            | (go_at_call 24
               refine (tlEver2 t7 HQ.out).mono ?_
               rintro e y8 ⟨rfl, hb8⟩
               have t8 := t7.below hb8)
            | (go_at_call 25
               refine (tlLate1 t8 HLV.out).mono ?_
               rintro e y9 ⟨rfl, hb9⟩
               have t9 := t8.below hb9)
            | (go_at_call 26
               refine (tlLate2 t9 HLV.out).mono ?_
               rintro e y10 ⟨rfl, hb10⟩
               have t10 := t9.below hb10)
            | (go_at_call 27
               refine (tlNow1 t10 HNW.out).mono ?_
               rintro e y11 ⟨rfl, hb11⟩
               have t11 := t10.below hb11)
            | (go_at_call 28
               refine (tlNow2 t11 HNW.out).mono ?_
               rintro e y12 ⟨rfl, hb12⟩
               have t12 := t11.below hb12)
            | (go_at_call 29
               refine (tlDue1 t12 HDV.out).mono ?_
               rintro e y13 ⟨rfl, t13⟩
      )
            | (go_at_call 30
               refine (tlDue2 t13 HDV.out).mono ?_
               rintro e y14 ⟨rfl, hb14⟩
               have t14 := t13.below hb14)
            | fail)
      have HR2 : Hid (∃ G K1 Z1 K2 Z2, GrTw b1 b2 y14 K1 Z1 F1 G (j + 1) K2 Z2 F2 G (j + 1) ∧ Below w.heap.size w y14) := Lib.hid ⟨G5, _, _, _, _, t14.tw, t14.hb⟩
      clear t0 t1 t2 t3 t4 t5 t6 t7 t8 t9 t10 t11 t12 t13 t14 HNC HNO HQ HLV HNW HDV HM hb1 hb2 hb3 hb4 hb5 hb6 hb7 hb8 hb9 hb10 hb11 hb12 hb14 r7 r8 r9 r10 r7b r9b
      go_wp2_with fail
      exact ⟨⟨j + 1, by omega, by go_num, HR2⟩, by simp only [intOf]; omega⟩
    · by_cases hk3 : kd = 3
      · subst hk3
        cases hcl : G.cl with
        | nil =>
          have HCL := Lib.hid hcl
          clear hcl
          go_wp2_with fail
          refine (tlNextNil1 TL.out HCL.out).mono ?_
          rintro e x2 ⟨rfl, -, t2⟩
          obtain ⟨x3, s3, k3, f3⟩ := gaBox2 (W := x2) (t := ⟨0, 0⟩) (l' := []) (A := none) (c := 0) (n := 0) rfl
          have s3' : (storeKG 47 ⟨x2.heap.size, 0, none⟩ (.agg #[.int .u64 0, .int .u64 0, .slice none 0 0])).run Tryz.prog (x2.alloc (.cells #[.int .u64 0, .int .u64 0, .slice none 0 0] 47)) = .ok () x3 := s3
          have T3 := Lib.hid (t2.below (f3.below (Nat.le_refl _) fun _ e => e.elim))
          have K3 := Lib.hid k3
          have NK3 : Hid (¬K2 x2.heap.size) := Lib.hid fun e => by have := (t2.tw.b.lo _ e).2; omega
          clear t2 s3 k3 f3
          go_wp2_with fail
          refine (tlNextNil2 T3.out HCL.out).mono ?_
          rintro e x4 ⟨rfl, f4, t4⟩
          obtain ⟨x5, s5, k5, f5⟩ := gaBox2 (W := x4) (t := ⟨0, 0⟩) (l' := []) (A := none) (c := 0) (n := 0) rfl
          have s5' : (storeKG 47 ⟨x4.heap.size, 0, none⟩ (.agg #[.int .u64 0, .int .u64 0, .slice none 0 0])).run Tryz.prog (x4.alloc (.cells #[.int .u64 0, .int .u64 0, .slice none 0 0] 47)) = .ok () x5 := s5
          have T5 := Lib.hid (t4.below (f5.below (Nat.le_refl _) fun _ e => e.elim))
          have k35 : Bk x5 x2.heap.size 47 _ := f5.bk (f4.bk K3.out NK3.out) fun e => e
          have t5 := ldTrB (o := 0) (a := 0) (b := 0) k5 rfl rfl
          have t35 := ldTrB (o := 0) (a := 0) (b := 0) k35 rfl rfl
          have c5 : x5.cell? ⟨x4.heap.size, 2, none⟩ = some (.slice none 0 0) := (k5.cell 2).trans rfl
          have c35 : x5.cell? ⟨x2.heap.size, 2, none⟩ = some (.slice none 0 0) := (k35.cell 2).trans rfl
          have t5' : (loadK 37 ⟨x4.heap.size, 0, none⟩).run Tryz.prog x5 = .ok (.agg #[.int .u64 0, .int .u64 0]) x5 := t5
          have t35' : (loadK 37 ⟨x2.heap.size, 0, none⟩).run Tryz.prog x5 = .ok (.agg #[.int .u64 0, .int .u64 0]) x5 := t35
          have CS := Lib.hid (kitSames (c1 := 0) (c2 := 0) (n := 0) (m := 0) (B := x5.heap.size) (la := []) (lb := []) x5 (RbS.nil (A := none)) (RbS.nil (A := none)) rfl rfl (Nat.le_refl _) (by omega) (by omega))
          rw [decide_eq_true rfl] at CS
          clear f4 t4 s5 k5 f5 k35 t5 t35 s3' T3 K3 NK3 TL
          go_wp2_with fail
          refine CS.out.mono ?_
          rintro e x6 ⟨rfl, hb6⟩
          obtain ⟨G5, hG5⟩ : ∃ G5, G.next = G5 := ⟨_, rfl⟩
          have TT := Lib.hid ((T5.out.below hb6).mono (Nat.le_succ j) (Nat.le_succ j) (by omega) (by omega))
          rw [hG5] at TT
          clear hG5 hb6 CS t5' t35' c5 c35 s5' HCL T5
          go_wp2_with fail
          have t0 := TT.out.drew
          clear TT
          obtain ⟨nc, hnc⟩ : ∃ nc, (G5.cl.map (·.1)).length = nc := ⟨_, rfl⟩
          obtain ⟨no, hno⟩ : ∃ no, (G5.op.map (·.t)).length = no := ⟨_, rfl⟩
          obtain ⟨qe, hqe⟩ : ∃ qe, decide (z.e.s.tr ∈ G5.all) = qe := ⟨_, rfl⟩
          obtain ⟨lv, hlv⟩ : ∃ lv, G5.late = lv := ⟨_, rfl⟩
          obtain ⟨nw, hnw⟩ : ∃ nw, G5.now = nw := ⟨_, rfl⟩
          obtain ⟨dv, hdv⟩ : ∃ dv, G5.due = dv := ⟨_, rfl⟩
          have hm : nc ≤ 9223372036854775807 ∧ no ≤ 9223372036854775807 := by
            rw [← hnc, ← hno, List.length_map, List.length_map]
            have := t0.tw.a.ok.num
            omega
          have HNC := Lib.hid hnc
          have HNO := Lib.hid hno
          have HQ := Lib.hid hqe
          have HLV := Lib.hid hlv
          have HNW := Lib.hid hnw
          have HDV := Lib.hid hdv
          have HM := Lib.hid hm
          clear hnc hno hqe hlv hnw hdv hm
          go_wp2_with fail
          go_region_held3 (fun W => (loadK 37 ⟨r, 1, none⟩).run Tryz.prog W = .ok (trV z.e.s.tr) W)
              (exact Tl.ld (by assumption))
              (first
                | (go_at_call 19
                   refine (tlClosed1 t0 HNC.out).mono ?_
                   rintro e y1 ⟨A7, c7, rfl, r7, hb1⟩
                   have t1 := t0.below hb1)
                | (go_at_call 20
                   refine (tlClosed2 t1 HNC.out).mono ?_
                   rintro e y2 ⟨A8, c8, rfl, r8, hb2⟩
                   have t2 := t1.below hb2
                   have r7b := r7.below hb2)
                | (go_at_call_of 18 (Value.slice A7 nc c7)
                   refine (tlSame r7b r8 HNC.out HM.out.1).mono ?_
                   rintro e y3 ⟨rfl, hb3⟩
                   have t3 := t2.below hb3)
                | (go_at_call 21
                   refine (tlOpen1 t3 HNO.out).mono ?_
                   rintro e y4 ⟨A9, c9, rfl, r9, hb4⟩
                   have t4 := t3.below hb4)
                | (go_at_call 22
                   refine (tlOpen2 t4 HNO.out).mono ?_
                   rintro e y5 ⟨A10, c10, rfl, r10, hb5⟩
                   have t5 := t4.below hb5
                   have r9b := r9.below hb5)
                | (go_at_call_of 18 (Value.slice A9 no c9)
                   refine (tlSame r9b r10 HNO.out HM.out.2).mono ?_
                   rintro e y6 ⟨rfl, hb6⟩
                   have t6 := t5.below hb6)
                | (go_at_call 23
                   refine (tlEver1 t6 HQ.out).mono ?_
                   rintro e y7 ⟨rfl, hb7⟩
                   have t7 := t6.below hb7)
                | (go_at_call 24
                   refine (tlEver2 t7 HQ.out).mono ?_
                   rintro e y8 ⟨rfl, hb8⟩
                   have t8 := t7.below hb8)
                | (go_at_call 25
                   refine (tlLate1 t8 HLV.out).mono ?_
                   rintro e y9 ⟨rfl, hb9⟩
                   have t9 := t8.below hb9)
                | (go_at_call 26
                   refine (tlLate2 t9 HLV.out).mono ?_
                   rintro e y10 ⟨rfl, hb10⟩
                   have t10 := t9.below hb10)
                | (go_at_call 27
                   refine (tlNow1 t10 HNW.out).mono ?_
                   rintro e y11 ⟨rfl, hb11⟩
                   have t11 := t10.below hb11)
                | (go_at_call 28
                   refine (tlNow2 t11 HNW.out).mono ?_
                   rintro e y12 ⟨rfl, hb12⟩
                   have t12 := t11.below hb12)
                | (go_at_call 29
                   refine (tlDue1 t12 HDV.out).mono ?_
                   rintro e y13 ⟨rfl, t13⟩
          )
                | (go_at_call 30
                   refine (tlDue2 t13 HDV.out).mono ?_
                   rintro e y14 ⟨rfl, hb14⟩
                   have t14 := t13.below hb14)
                | fail)
          have HR2 : Hid (∃ G K1 Z1 K2 Z2, GrTw b1 b2 y14 K1 Z1 F1 G (j + 1) K2 Z2 F2 G (j + 1) ∧ Below w.heap.size w y14) := Lib.hid ⟨G5, _, _, _, _, t14.tw, t14.hb⟩
          clear t0 t1 t2 t3 t4 t5 t6 t7 t8 t9 t10 t11 t12 t13 t14 HNC HNO HQ HLV HNW HDV HM hb1 hb2 hb3 hb4 hb5 hb6 hb7 hb8 hb9 hb10 hb11 hb12 hb14 r7 r8 r9 r10 r7b r9b
          go_wp2_with fail
          exact ⟨⟨j + 1, by omega, by go_num, HR2⟩, by simp only [intOf]; omega⟩
        | cons tl cl =>
          obtain ⟨t, ls⟩ := tl
          obtain ⟨nl, hnl⟩ : ∃ nl, ls.length = nl := ⟨_, rfl⟩
          have HCL := Lib.hid hcl
          have HNL := Lib.hid hnl
          have hnlm : nl ≤ 9223372036854775807 := by
            have := TL.out.tw.a.ok.lenOf hcl
            omega
          clear hcl hnl
          go_wp2_with fail
          refine (tlNext1 TL.out HCL.out HNL.out).mono ?_
          rintro e x2 ⟨f2, t2, A2, c2, l2, rfl, hz2, hs2, hl2⟩
          obtain ⟨x3, s3, k3, f3⟩ := gaBox2 (W := x2) (t := t) (A := A2) (c := c2) hl2
          have T3 := Lib.hid (t2.below (f3.below (Nat.le_refl _) fun _ e => e.elim))
          have K3 := Lib.hid k3
          have NK3 : Hid (¬K2 x2.heap.size) := Lib.hid fun e => by have := (t2.tw.b.lo _ e).2; omega
          have HZ3 : Hid (ClZ x3 Z1 ⟨t, l2, A2, c2⟩) := Lib.hid (hz2.keep (fun b hb => f3.block b (t2.tw.a.loZ b hb) fun e => e) f3.size fun _ e => e)
          have HS2 := Lib.hid hs2
          have HL2 := Lib.hid hl2
          clear f2 t2 k3 f3 hz2 hs2 hl2
          go_wp2_with fail
          refine (tlNext2 T3.out HCL.out HNL.out).mono ?_
          rintro e x4 ⟨f4, t4, A4, c4, l4, rfl, hz4, hs4, hl4⟩
          obtain ⟨x5, s5, k5, f5⟩ := gaBox2 (W := x4) (t := t) (A := A4) (c := c4) hl4
          have T5 := Lib.hid (t4.below (f5.below (Nat.le_refl _) fun _ e => e.elim))
          have k35 : Bk x5 x2.heap.size 47 _ := f5.bk (f4.bk K3.out NK3.out) fun e => e
          have t5 := ldTrB (o := 0) (a := t.hi) (b := t.lo) k5 rfl rfl
          have t35 := ldTrB (o := 0) (a := t.hi) (b := t.lo) k35 rfl rfl
          have c5 : x5.cell? ⟨x4.heap.size, 2, none⟩ = some (.slice A4 nl c4) := (k5.cell 2).trans rfl
          have c35 : x5.cell? ⟨x2.heap.size, 2, none⟩ = some (.slice A2 nl c2) := (k35.cell 2).trans rfl
          have hzx := (HZ3.out.keep (Z' := Z1) (w' := x4) (fun b hb => f4.block b (T3.out.tw.a.loZ b hb) fun e => T3.out.tw.zk b e hb) f4.size fun _ e => e)
          have hzx5 := hzx.keep (Z' := Z1) (w' := x5) (fun b hb => f5.block b (t4.tw.a.loZ b hb) fun e => e) f5.size fun _ e => e
          have hzy5 := hz4.keep (Z' := Z2) (w' := x5) (fun b hb => f5.block b (t4.tw.b.loZ b hb) fun e => e) f5.size fun _ e => e
          have CS := Lib.hid (kitSames (c1 := c2) (c2 := c4) (n := nl) (m := nl) (B := x5.heap.size) x5 hzx5.rd hzy5.rd HL2.out hl4 (Nat.le_refl _) hnlm hnlm)
          rw [decide_eq_true (show sps l2 = sps l4 from HS2.out.trans hs4.symm)] at CS
          clear f4 t4 k5 f5 k35 s3 hzx hzx5 hzy5 hz4 hs4 hl4 T3 K3 NK3 HZ3 HS2 HL2 TL
          go_wp2_with fail
          refine CS.out.mono ?_
          rintro e x6 ⟨rfl, hb6⟩
          obtain ⟨G5, hG5⟩ : ∃ G5, G.next = G5 := ⟨_, rfl⟩
          have TT := Lib.hid ((T5.out.below hb6).mono (Nat.le_succ j) (Nat.le_succ j) (by omega) (by omega))
          rw [hG5] at TT
          clear hG5 hb6 CS t5 t35 c5 c35 s5 HCL HNL T5 hnlm
          go_wp2_with fail
          have t0 := TT.out.drew
          clear TT
          obtain ⟨nc, hnc⟩ : ∃ nc, (G5.cl.map (·.1)).length = nc := ⟨_, rfl⟩
          obtain ⟨no, hno⟩ : ∃ no, (G5.op.map (·.t)).length = no := ⟨_, rfl⟩
          obtain ⟨qe, hqe⟩ : ∃ qe, decide (z.e.s.tr ∈ G5.all) = qe := ⟨_, rfl⟩
          obtain ⟨lv, hlv⟩ : ∃ lv, G5.late = lv := ⟨_, rfl⟩
          obtain ⟨nw, hnw⟩ : ∃ nw, G5.now = nw := ⟨_, rfl⟩
          obtain ⟨dv, hdv⟩ : ∃ dv, G5.due = dv := ⟨_, rfl⟩
          have hm : nc ≤ 9223372036854775807 ∧ no ≤ 9223372036854775807 := by
            rw [← hnc, ← hno, List.length_map, List.length_map]
            have := t0.tw.a.ok.num
            omega
          have HNC := Lib.hid hnc
          have HNO := Lib.hid hno
          have HQ := Lib.hid hqe
          have HLV := Lib.hid hlv
          have HNW := Lib.hid hnw
          have HDV := Lib.hid hdv
          have HM := Lib.hid hm
          clear hnc hno hqe hlv hnw hdv hm
          go_wp2_with fail
          go_region_held3 (fun W => (loadK 37 ⟨r, 1, none⟩).run Tryz.prog W = .ok (trV z.e.s.tr) W)
              (exact Tl.ld (by assumption))
              (first
                | (go_at_call 19
                   refine (tlClosed1 t0 HNC.out).mono ?_
                   rintro e y1 ⟨A7, c7, rfl, r7, hb1⟩
                   have t1 := t0.below hb1)
                | (go_at_call 20
                   refine (tlClosed2 t1 HNC.out).mono ?_
                   rintro e y2 ⟨A8, c8, rfl, r8, hb2⟩
                   have t2 := t1.below hb2
                   have r7b := r7.below hb2)
                | (go_at_call_of 18 (Value.slice A7 nc c7)
                   refine (tlSame r7b r8 HNC.out HM.out.1).mono ?_
                   rintro e y3 ⟨rfl, hb3⟩
                   have t3 := t2.below hb3)
                | (go_at_call 21
                   refine (tlOpen1 t3 HNO.out).mono ?_
                   rintro e y4 ⟨A9, c9, rfl, r9, hb4⟩
                   have t4 := t3.below hb4)
                | (go_at_call 22
                   refine (tlOpen2 t4 HNO.out).mono ?_
                   rintro e y5 ⟨A10, c10, rfl, r10, hb5⟩
                   have t5 := t4.below hb5
                   have r9b := r9.below hb5)
                | (go_at_call_of 18 (Value.slice A9 no c9)
                   refine (tlSame r9b r10 HNO.out HM.out.2).mono ?_
                   rintro e y6 ⟨rfl, hb6⟩
                   have t6 := t5.below hb6)
                | (go_at_call 23
                   refine (tlEver1 t6 HQ.out).mono ?_
                   rintro e y7 ⟨rfl, hb7⟩
                   have t7 := t6.below hb7)
                | (go_at_call 24
                   refine (tlEver2 t7 HQ.out).mono ?_
                   rintro e y8 ⟨rfl, hb8⟩
                   have t8 := t7.below hb8)
                | (go_at_call 25
                   refine (tlLate1 t8 HLV.out).mono ?_
                   rintro e y9 ⟨rfl, hb9⟩
                   have t9 := t8.below hb9)
                | (go_at_call 26
                   refine (tlLate2 t9 HLV.out).mono ?_
                   rintro e y10 ⟨rfl, hb10⟩
                   have t10 := t9.below hb10)
                | (go_at_call 27
                   refine (tlNow1 t10 HNW.out).mono ?_
                   rintro e y11 ⟨rfl, hb11⟩
                   have t11 := t10.below hb11)
                | (go_at_call 28
                   refine (tlNow2 t11 HNW.out).mono ?_
                   rintro e y12 ⟨rfl, hb12⟩
                   have t12 := t11.below hb12)
                | (go_at_call 29
                   refine (tlDue1 t12 HDV.out).mono ?_
                   rintro e y13 ⟨rfl, t13⟩
          )
                | (go_at_call 30
                   refine (tlDue2 t13 HDV.out).mono ?_
                   rintro e y14 ⟨rfl, hb14⟩
                   have t14 := t13.below hb14)
                | fail)
          have HR2 : Hid (∃ G K1 Z1 K2 Z2, GrTw b1 b2 y14 K1 Z1 F1 G (j + 1) K2 Z2 F2 G (j + 1) ∧ Below w.heap.size w y14) := Lib.hid ⟨G5, _, _, _, _, t14.tw, t14.hb⟩
          clear t0 t1 t2 t3 t4 t5 t6 t7 t8 t9 t10 t11 t12 t13 t14 HNC HNO HQ HLV HNW HDV HM hb1 hb2 hb3 hb4 hb5 hb6 hb7 hb8 hb9 hb10 hb11 hb12 hb14 r7 r8 r9 r10 r7b r9b
          go_wp2_with fail
          exact ⟨⟨j + 1, by omega, by go_num, HR2⟩, by simp only [intOf]; omega⟩
      · have hk2b : (kd == 2) = false := by rw [beq_eq_false_iff_ne]; exact hk2
        have hk3b : (kd == 3) = false := by rw [beq_eq_false_iff_ne]; exact hk3
        have l2 := ldSpB TL.out.bk
        obtain ⟨x, hx⟩ : ∃ x, (G.add z.e.s).2.1 = x := ⟨_, rfl⟩
        obtain ⟨y, hy⟩ : ∃ y, (G.add z.e.s).2.2 = y := ⟨_, rfl⟩
        have HX := Lib.hid hx
        have HY := Lib.hid hy
        clear hx hy
        go_wp2_with fail
        refine (tlAdd1 TL.out (by omega) HZ.out.el HX.out HY.out).mono ?_
        rintro e x2 ⟨rfl, K1', Z1', t2⟩
        have l3 := ldSpB t2.bk
        have T2 := Lib.hid t2
        clear t2 l2
        go_wp2_with fail
        refine (tlAdd2 T2.out (by omega) HZ.out.el HX.out HY.out).mono ?_
        rintro e x3 ⟨rfl, K2', Z2', t3⟩
        obtain ⟨G5, hG5⟩ : ∃ G5, (G.add z.e.s).1 = G5 := ⟨_, rfl⟩
        rw [hG5] at t3
        have TT := Lib.hid t3
        clear t3 l3 hG5 HX HY T2
        go_wp2_with fail
        have t0 := TT.out.drew
        clear TT
        obtain ⟨nc, hnc⟩ : ∃ nc, (G5.cl.map (·.1)).length = nc := ⟨_, rfl⟩
        obtain ⟨no, hno⟩ : ∃ no, (G5.op.map (·.t)).length = no := ⟨_, rfl⟩
        obtain ⟨qe, hqe⟩ : ∃ qe, decide (z.e.s.tr ∈ G5.all) = qe := ⟨_, rfl⟩
        obtain ⟨lv, hlv⟩ : ∃ lv, G5.late = lv := ⟨_, rfl⟩
        obtain ⟨nw, hnw⟩ : ∃ nw, G5.now = nw := ⟨_, rfl⟩
        obtain ⟨dv, hdv⟩ : ∃ dv, G5.due = dv := ⟨_, rfl⟩
        have hm : nc ≤ 9223372036854775807 ∧ no ≤ 9223372036854775807 := by
          rw [← hnc, ← hno, List.length_map, List.length_map]
          have := t0.tw.a.ok.num
          omega
        have HNC := Lib.hid hnc
        have HNO := Lib.hid hno
        have HQ := Lib.hid hqe
        have HLV := Lib.hid hlv
        have HNW := Lib.hid hnw
        have HDV := Lib.hid hdv
        have HM := Lib.hid hm
        clear hnc hno hqe hlv hnw hdv hm
        go_wp2_with fail
        go_region_held3 (fun W => (loadK 37 ⟨r, 1, none⟩).run Tryz.prog W = .ok (trV z.e.s.tr) W)
            (exact Tl.ld (by assumption))
            (first
              | (go_at_call 19
                 refine (tlClosed1 t0 HNC.out).mono ?_
                 rintro e y1 ⟨A7, c7, rfl, r7, hb1⟩
                 have t1 := t0.below hb1)
              | (go_at_call 20
                 refine (tlClosed2 t1 HNC.out).mono ?_
                 rintro e y2 ⟨A8, c8, rfl, r8, hb2⟩
                 have t2 := t1.below hb2
                 have r7b := r7.below hb2)
              | (go_at_call_of 18 (Value.slice A7 nc c7)
                 refine (tlSame r7b r8 HNC.out HM.out.1).mono ?_
                 rintro e y3 ⟨rfl, hb3⟩
                 have t3 := t2.below hb3)
              | (go_at_call 21
                 refine (tlOpen1 t3 HNO.out).mono ?_
                 rintro e y4 ⟨A9, c9, rfl, r9, hb4⟩
                 have t4 := t3.below hb4)
              | (go_at_call 22
                 refine (tlOpen2 t4 HNO.out).mono ?_
                 rintro e y5 ⟨A10, c10, rfl, r10, hb5⟩
                 have t5 := t4.below hb5
                 have r9b := r9.below hb5)
              | (go_at_call_of 18 (Value.slice A9 no c9)
                 refine (tlSame r9b r10 HNO.out HM.out.2).mono ?_
                 rintro e y6 ⟨rfl, hb6⟩
                 have t6 := t5.below hb6)
              | (go_at_call 23
                 refine (tlEver1 t6 HQ.out).mono ?_
                 rintro e y7 ⟨rfl, hb7⟩
                 have t7 := t6.below hb7)
              | (go_at_call 24
                 refine (tlEver2 t7 HQ.out).mono ?_
                 rintro e y8 ⟨rfl, hb8⟩
                 have t8 := t7.below hb8)
              | (go_at_call 25
                 refine (tlLate1 t8 HLV.out).mono ?_
                 rintro e y9 ⟨rfl, hb9⟩
                 have t9 := t8.below hb9)
              | (go_at_call 26
                 refine (tlLate2 t9 HLV.out).mono ?_
                 rintro e y10 ⟨rfl, hb10⟩
                 have t10 := t9.below hb10)
              | (go_at_call 27
                 refine (tlNow1 t10 HNW.out).mono ?_
                 rintro e y11 ⟨rfl, hb11⟩
                 have t11 := t10.below hb11)
              | (go_at_call 28
                 refine (tlNow2 t11 HNW.out).mono ?_
                 rintro e y12 ⟨rfl, hb12⟩
                 have t12 := t11.below hb12)
              | (go_at_call 29
                 refine (tlDue1 t12 HDV.out).mono ?_
                 rintro e y13 ⟨rfl, t13⟩
        )
              | (go_at_call 30
                 refine (tlDue2 t13 HDV.out).mono ?_
                 rintro e y14 ⟨rfl, hb14⟩
                 have t14 := t13.below hb14)
              | fail)
        have HR2 : Hid (∃ G K1 Z1 K2 Z2, GrTw b1 b2 y14 K1 Z1 F1 G (j + 1) K2 Z2 F2 G (j + 1) ∧ Below w.heap.size w y14) := Lib.hid ⟨G5, _, _, _, _, t14.tw, t14.hb⟩
        clear t0 t1 t2 t3 t4 t5 t6 t7 t8 t9 t10 t11 t12 t13 t14 HNC HNO HQ HLV HNW HDV HM hb1 hb2 hb3 hb4 hb5 hb6 hb7 hb8 hb9 hb10 hb11 hb12 hb14 r7 r8 r9 r10 r7b r9b
        go_wp2_with fail
        exact ⟨⟨j + 1, by omega, by go_num, HR2⟩, by simp only [intOf]; omega⟩
end Go.Proofs.YtoojpagpkbcfjaaGreat

