/- Texts of the proof of GatherOnceSaid, joined: GbK GbL GatherOnce GatherOnceP. -/
import Derived.Test.YtoojpagpkbcfjaaJGatherOnce17
import Derived.Test.YtoojpagpkbcfjaaJGatherOnce13
import Derived.Test.YtoojpagpkbcfjaaJGatherOnce9
/- Layer 20: told: a closed trace is noted. -/
namespace Go.Proofs.Ytoojpagpkbcfjaa
open Go.RowKit
attribute [local go_sem ↓] loadTr_shut appKG_shut
abbrev boV (b : Bool) : Value := .bool b
abbrev seeL (E : List Tr) : List (Tr × Bool) := E.map fun t => (t, true)
theorem look_no {w : World} {mb : Nat} {E : List Tr} (h : Mh trV boV w mb (seeL E)) {t : Tr} (ht : t ∉ E) : (Instr.lookup 56 (.map (some mb)) (trV t) false).run Try.prog w = .ok (.bool false) w := by
  have h1 := run_mhLook (z := .bool false) (e := 4) trRun Try.underlying56 (by simp [Try.zeroValue4]) h t false
  have hn : mgGet t (seeL E) = none := by
    cases hq : mgGet t (seeL E) with
    | none => rfl
    | some v =>
      obtain ⟨t', ht', e⟩ := List.mem_map.1 (mgGet_mem hq)
      cases e
      exact absurd ht' ht
  rw [hn] at h1
  exact h1
/-- What told comes to. -/
def ToldP (base : Nat) (w : World) (mb ob : Nat) (E : List Tr) (t : Tr) (A1 : Option Addr) (n c1 : Nat) (lo l : List El) (nl : Nat) (e : Ending) (w' : World) : Prop :=
  e = .returned (.bool true) ∧ ∃ A' c' E', Mh trV boV w' mb (seeL E') ∧ (∀ u, u ∈ E' ↔ u ∈ E ∨ u = t) ∧ Bk w' ob 41 #[.slice A' (n + nl) c'] ∧ w'.ownsRow base 36 11 (.slice A' (n + nl) c') (n + nl) (els (lo ++ l)) ∧
    ((Value.slice A' (n + nl) c').ownBlock = (Value.slice A1 n c1).ownBlock ∨ ∃ g, (Value.slice A' (n + nl) c').ownBlock = some g ∧ w.heap.size ≤ g) ∧ FrK w w' fun b => b = mb ∨ b = ob ∨ (Value.slice A1 n c1).ownBlock = some b
theorem tdS {w : World} {r mb nl cc : Nat} {E : List Tr} {t : Tr} {A : Option Addr} (h : Bk w r 43 #[.int .u64 (t.hi : Nat), .int .u64 (t.lo : Nat), .slice A nl cc]) (hM : Mh trV boV w mb (seeL E)) (ht : t ∉ E) :
    (loadK 33 ⟨r, 0, none⟩).run Try.prog w = .ok (trV t) w ∧ w.cell? ⟨r, 2, none⟩ = some (.slice A nl cc) ∧ (Instr.lookup 56 (.map (some mb)) (trV t) false).run Try.prog w = .ok (.bool false) w :=
  ⟨ldTrB (o := 0) (a := t.hi) (b := t.lo) h rfl rfl, (h.cell 2).trans rfl, look_no hM ht⟩
set_option maxRecDepth 100000 in
theorem ldSpTr {w : World} {b o : Nat} {e : El} {t : Tr} (h : ∀ j, j < 11 → w.cell? ⟨b, o + j, none⟩ = (elC e)[j]?) (ht : e.s.tr = t) : (loadK 33 ⟨b, o, none⟩).run Try.prog w = .ok (trV t) w := by
  subst ht
  exact run_loadVar_cells w _ _ ⟨b, o, none⟩ [.int .u64 (e.s.hi : Nat), .int .u64 (e.s.lo : Nat)] Try.underlying33 rfl (by rfl) (fun j v hv => by
    rw [Addr.add_lit]
    match j, hv with
    | 0, hv => rw [h 0 (by omega)]; exact hv
    | 1, hv => rw [h 1 (by omega)]; exact hv
    | j + 2, hv => simp at hv)
set_option maxRecDepth 100000 in
set_option maxHeartbeats 8000000 in
theorem gaTold {base mb ob n c1 cc nl : Nat} {A A1 : Option Addr} {E : List Tr} {t : Tr} {lo l : List El} (w : World) (hM : Mh trV boV w mb (seeL E)) (ht : t ∉ E) (hl : l.length = nl) (hr : RbS w w.heap.size A l) (hcp : ClP (t, sps l)) (hB : Bk w ob 41 #[.slice A1 n c1])
    (hown : w.ownsRow base 36 11 (.slice A1 n c1) n (els lo)) (hb : base ≤ w.heap.size) (hn : n ≤ 100000) :
    Calls Try.prog 20 #[.map (some mb), .agg #[.int .u64 (t.hi : Nat), .int .u64 (t.lo : Nat), .slice A nl cc], .pointer (some ⟨ob, 0, none⟩)] w (ToldP base w mb ob E t A1 n c1 lo l nl) := by
  obtain ⟨hc1, hc2, hc3, hc4⟩ := hcp
  simp only at hc1 hc2 hc3 hc4
  have hnl32 : nl ≤ 32 := by rw [sps_length] at hc2; omega
  have hnl0 : nl ≠ 0 := fun e => hc1 (List.eq_nil_of_length_eq_zero (by rw [sps_length]; omega))
  have hnlb : ((nl : Int) == 0) = false := by rw [beq_eq_false_iff_ne]; omega
  obtain ⟨r, hr0⟩ : ∃ r, w.heap.size = r := ⟨_, rfl⟩
  have b1 := Bk.new w 43 #[.int .u64 (t.hi : Nat), .int .u64 (t.lo : Nat), .slice A nl cc]
  have f1 := (FrK.refl w Kno).alloc (.cells #[.int .u64 (t.hi : Nat), .int .u64 (t.lo : Nat), .slice A nl cc] 43)
  have m1 := hM.alloc (.cells #[.int .u64 (t.hi : Nat), .int .u64 (t.lo : Nat), .slice A nl cc] 43)
  have r1 := hr.allocG (.cells #[.int .u64 (t.hi : Nat), .int .u64 (t.lo : Nat), .slice A nl cc] 43)
  obtain ⟨w1, e1⟩ : ∃ w1, w.alloc (.cells #[.int .u64 (t.hi : Nat), .int .u64 (t.lo : Nat), .slice A nl cc] 43) = w1 := ⟨_, rfl⟩
  rw [e1] at b1 f1 m1 r1
  rw [hr0] at b1
  have B1 := Lib.hid b1
  have F1 := Lib.hid f1
  have M1 := Lib.hid m1
  have R1 := Lib.hid r1
  have b1d : Bk w1.drew r 43 _ := b1
  have m1d := m1.drew
  have r1d : RbS w1.drew w1.drew.heap.size A l := r1.below (Below.refl _ w1).drew
  have HM := Lib.hid hM
  have HB := Lib.hid hB
  have HO := Lib.hid hown
  have E1 := Lib.hid e1
  have HR := Lib.hid hr0
  have HC := Lib.hid (And.intro hc3 hc4)
  have HBW := Lib.hid hb
  have CO := Lib.hid (rOrder (c := cc) w1.drew r1d hl (Nat.le_refl _) (by omega) fun e he => by
    have h1 := (r1d.ok e he).len
    have h2 := chk_tags (hc4 e.s (List.mem_map.2 ⟨e, he, rfl⟩)).1
    omega)
  rw [hc3] at CO
  clear hM hB hown e1 hr0 hc1 hc2 hc3 hc4 hb hr b1 f1 m1 r1
  go_enter Try.func20, Try.ntmps20
  go_wp2_with fail
  rw [E1.out, HR.out]
  go_region_held3 (fun w' => (loadK 33 ⟨r, 0, none⟩).run Try.prog w' = .ok (trV t) w' ∧ w'.cell? ⟨r, 2, none⟩ = some (.slice A nl cc) ∧ (Instr.lookup 56 (.map (some mb)) (trV t) false).run Try.prog w' = .ok (.bool false) w')
    (exact tdS (by assumption) (by assumption) ht)
    (first
      | (go_at_call 23
         refine CO.out.mono ?_
         rintro e w2 ⟨A2, c2, l2, rfl, hs2, hr2, hb2⟩
         have b2 := b1d.below hb2 b1d.lt
         have m2 := m1d.bS hb2
         have r2 := r1d.bS hb2
         have HB2 := Lib.hid hb2
         have q2 : RbS w2 w2.heap.size A2 l2 := ⟨Rd.of_own hr2.own, hr2.ok⟩
         have n2 := hr2.len)
      | (go_at_call 13
         have cs2 := kitSames (c1 := c2) (c2 := cc) w2 q2 r2 n2 hl (Nat.le_refl _) (by omega) (by omega)
         rw [decide_eq_true hs2] at cs2
         refine cs2.mono ?_
         rintro e w3 ⟨rfl, hb3⟩
         have b3 := b2.below hb3 b2.lt
         have m3 := m2.bS hb3
         have r3 := r2.bS hb3
         have HB3 := Lib.hid (HB2.out.trans (hb3.mono HB2.out.size)))
      | fail)
  clear b1d m1d r1d b2 m2 r2 q2 n2 hr2 hb2 hb3 HB2 CO hs2
  obtain ⟨t3, -, -⟩ := tdS b3 m3 ht
  obtain ⟨es4, n4, hrun4, hm4⟩ := run_mhPut (P := Try.prog) (w := w3) trRun Try.underlying56 m3 t true
  have hg4 := putObj_grown w3 mb (.map es4 n4)
  obtain ⟨w4, e4⟩ : ∃ w4, putObj w3 mb (.map es4 n4) = w4 := ⟨_, rfl⟩
  rw [e4] at hrun4 hm4 hg4
  clear e4
  obtain ⟨E', hE1, hE2⟩ := put_ever t E
  rw [show mgPut t true (seeL E) = seeL E' from hE1] at hm4
  have f34 : FrK w3 w4 (Kis mb) := FrK.of_grown (K := Kis mb) hg4 fun b _ e => (Option.some.inj e).symm
  have f03 : FrK w w3 Kno := F1.out.drew.trans (FrK.of_below HB3.out (Nat.le_refl _) Kno) fun _ _ e => e
  have f04 : FrK w w4 (Kis mb) := (f03.mono (K' := Kis mb) fun _ _ e => e.elim).trans f34 fun _ _ e => e
  have r4 : RbS w4 w4.heap.size A l := RbS.more ⟨Rd.frMh r3.rd f34 m3 (Nat.le_refl _), fun e he => ⟨Rd.frMh (r3.ok e he).rd f34 m3 (Nat.le_refl _), (r3.ok e he).len, (r3.ok e he).max⟩⟩ f34.size
  have b4 := f34.bk b3 fun e => m3.neBk b3 e
  have M4 := Lib.hid hm4
  have HE := Lib.hid hE2
  have F04 := Lib.hid f04
  have R4 := Lib.hid r4
  have B4 := Lib.hid b4
  clear hm4 hE1 hE2 f34 f03 f04 r4 b4 b3 m3 r3 hg4 HB3
  go_wp2_with fail
  clear hrun4 t3
  go_loopw [7] (fun i_ wr => ∃ k : Nat, k ≤ nl ∧ i_ = .int .i64 k ∧ Hid (Below w4.heap.size w4 wr)) (fun i_ _ => nl - (intOf i_).toNat)
  case atStart => exact ⟨0, Nat.zero_le _, rfl, Lib.hid (Below.refl _ _)⟩
  case round =>
    obtain ⟨k, hk, rfl, HBR⟩ := hrel
    have br := B4.out.below HBR.out B4.out.lt
    have cr : wr.cell? ⟨r, 2, none⟩ = some (.slice A nl cc) := (br.cell 2).trans rfl
    by_cases hlt : k < nl
    · have hlt' : (k : Int) < (nl : Int) := by omega
      have hbd : Below w4.heap.size w4 wr.drew := below_drewN HBR.out 1
      obtain ⟨x, hx⟩ : ∃ x, l[k]? = some x := ⟨_, List.getElem?_eq_getElem (by omega)⟩
      obtain ⟨b, o, rfl, -, hc, -⟩ := (R4.out.below hbd).get hx
      have htx : x.s.tr = t := (HC.out.2 x.s (List.mem_map.2 ⟨x, List.mem_of_getElem? hx, rfl⟩)).2
      have l1 := ldSpTr (w := wr.drew) (b := b) (o := o + k * 11) (e := x) (t := t) (fun j hj => hc j hj) htx
      have l2 : (loadK 33 ⟨r, 0, none⟩).run Try.prog wr.drew = .ok (trV t) wr.drew := ldTrB (o := 0) (a := t.hi) (b := t.lo) (show Bk wr.drew r _ _ from br) rfl rfl
      have cd : wr.drew.cell? ⟨r, 2, none⟩ = some (.slice (some ⟨b, o, none⟩) nl cc) := cr
      have HBD := Lib.hid hbd
      clear hc htx hx br hbd
      go_wp2_with fail
      go_region_held3 (fun w' => w'.cell? ⟨r, 2, none⟩ = some (.slice (some ⟨b, o, none⟩) nl cc) ∧ (loadK 33 ⟨b, o + k * 11, none⟩).run Try.prog w' = .ok (trV t) w' ∧ (loadK 33 ⟨r, 0, none⟩).run Try.prog w' = .ok (trV t) w') (exact ⟨cd, l1, l2⟩) (fail)
      clear l1 l2 cd cr
      go_wp2_with fail
      exact ⟨⟨k + 1, by omega, by go_num, HBD⟩, by simp only [intOf]; omega⟩
    · have hlt' : ¬(k : Int) < (nl : Int) := by omega
      have fr : FrK w wr (Kis mb) := F04.out.trans (FrK.of_below HBR.out (Nat.le_refl _) (Kis mb)) fun _ _ e => e
      have bo : Bk wr ob 41 #[.slice A1 n c1] := fr.bk HB.out fun e => HM.out.neBk HB.out e
      have ow : wr.ownsRow base 36 11 (.slice A1 n c1) n (els lo) := own_of HO.out fun g e => fr.block g (HO.out.lt g e).2 fun e2 => by
        obtain ⟨cur, hcur⟩ := own_bk HO.out e
        exact HM.out.neBk hcur e2
      have rr := (R4.out.below HBR.out)
      obtain ⟨i0, hi0, hz0, hz1, hz2⟩ := info_parts spinfo
      have hsz4 := HBR.out.size
      have hszf := fr.size
      obtain ⟨v', w5, hrun5, own5, gr5, blk5, ⟨A5, c5, rfl⟩, -⟩ := run_app (P := Try.prog) (w := wr.drew) base 41 41 36 i0 _ 11 120 Try.underlying41 hi0 hz0 hz1 hz2 rfl (by omega) (.slice A1 n c1) n (els lo) (World.ownsRow.drew ow) w4.heap.size A nl cc (els l) (by rw [els_length, hl]) rr.rd.drew (els_one l) (by simp only [maxLen]; omega) (by omega) (by have := HBW.out; show base ≤ wr.heap.size; omega)
      change (appKG _ _ _).run _ _ = _ at hrun5
      have f5 : FrK wr w5 (fun b => (Value.slice A1 n c1).ownBlock = some b) := ((FrK.refl wr _).drew).trans (FrK.of_grown gr5 fun b _ e => e) fun _ _ e => e
      have bo5 : Bk w5 ob 41 #[.slice A1 n c1] := f5.bk bo fun e => by
        obtain ⟨cur, hcur⟩ := own_bk ow e
        exact absurd rfl (ne_of_type bo hcur (by decide))
      have k5 : w5.cell? ⟨ob, 0, none⟩ = some (.slice A1 n c1) := (bo5.cell 0).trans rfl
      have g5 := bo5.frozen 0
      have kd : wr.drew.cell? ⟨ob, 0, none⟩ = some (.slice A1 n c1) := (bo.cell 0).trans rfl
      have crd : wr.drew.cell? ⟨r, 2, none⟩ = some (.slice A nl cc) := cr
      have P : ToldP base w mb ob E t A1 n c1 lo l nl (.returned (.bool true)) (w5.setCell ⟨ob, 0, none⟩ (.slice A5 (n + nl) c5)) := by
        have fs := FrK.set w5 ob 0 (.slice A5 (n + nl) c5)
        rw [← els_append] at own5
        have m5 : Mh trV boV w5 mb (seeL E') := (M4.out.bS HBR.out).of (f5.block mb (M4.out.bS HBR.out).lt fun e => by
          obtain ⟨cur, hcur⟩ := own_bk ow e
          exact (M4.out.bS HBR.out).neBk hcur rfl)
        refine ⟨rfl, A5, c5, E', m5.of (fs.block mb m5.lt fun e => m5.neBk bo5 (show mb = ob from e).symm), HE.out, bo5.set 0 _, own_of own5 fun g e => fs.block g (own5.lt g e).2 fun e2 => ?_, blk5.imp id fun e => ⟨_, e, by show w.heap.size ≤ wr.heap.size; omega⟩, ?_⟩
        · obtain ⟨cur, hcur⟩ := own_bk own5 e
          exact ne_of_type hcur bo5 (by decide) e2
        · exact ((fr.mono (K' := fun b => b = mb ∨ b = ob ∨ (Value.slice A1 n c1).ownBlock = some b) fun _ _ e => .inl e).trans f5 fun _ _ e => .inr (.inr e)).trans fs fun _ _ e => .inr (.inl e)
      have HP := Lib.hid P
      clear P f5 bo5 own5 gr5 blk5 rr ow bo fr hi0 hz0 hz1 hz2 br
      go_wp2_with fail
      go_region
      all_goals go_wp2_with fail
      all_goals go_ret
      all_goals exact HP.out
end Go.Proofs.Ytoojpagpkbcfjaa

/- Layer 20: what GatherOnce keeps. -/
namespace Go.Proofs.Ytoojpagpkbcfjaa
open Go.RowKit
structure OnS (w0 : World) (b1 F mb ob : Nat) (wr : World) (j : Nat) (G : GSt) (K Z : Nat → Prop) (lI lO : List El) (E S : List Tr) (A7 : Option Addr) (n7 c7 : Nat) (A8 : Option Addr) (n8 c8 : Nat) : Prop where
  ga : GaS b1 wr K Z F G j
  es : ∀ t, t ∈ E ↔ t ∈ S
  see : Mh trV boV wr mb (seeL E)
  in_ : wr.ownsRow w0.heap.size 36 11 (.slice A7 n7 c7) n7 (els lI)
  inN : lI.length = n7
  inE : ∀ e ∈ lI, ElOk w0 w0.heap.size e
  cell : Bk wr ob 41 #[.slice A8 n8 c8]
  out : wr.ownsRow w0.heap.size 36 11 (.slice A8 n8 c8) n8 (els lO)
  outN : lO.length = n8
  outE : ∀ e ∈ lO, ElZ wr Z e
  inJ : n7 ≤ j
  lo1 : w0.heap.size ≤ b1
  lom : w0.heap.size ≤ mb
  loo : w0.heap.size ≤ ob
  bel : Below w0.heap.size w0 wr
  km : ¬K mb ∧ ¬Z mb
  ko : ¬K ob ∧ ¬Z ob
  k7 : ∀ g, (Value.slice A7 n7 c7).ownBlock = some g → ¬K g ∧ ¬Z g
  k8 : ∀ g, (Value.slice A8 n8 c8).ownBlock = some g → ¬K g ∧ ¬Z g
  ne : ∀ g, (Value.slice A7 n7 c7).ownBlock = some g → (Value.slice A8 n8 c8).ownBlock ≠ some g
section
variable {w0 wr wr' : World} {b1 F mb ob j j' n7 c7 n8 c8 : Nat} {G G' : GSt} {K Z K' Z' : Nat → Prop} {lI lO : List El} {E S : List Tr} {A7 A8 : Option Addr}
/-- The gatherer goes on. -/
theorem OnS.gro (h : OnS w0 b1 F mb ob wr j G K Z lI lO E S A7 n7 c7 A8 n8 c8) (g : Gro wr wr' K K' Z Z') (ga : GaS b1 wr' K' Z' F G' j') (hj : j ≤ j') : OnS w0 b1 F mb ob wr' j' G' K' Z' lI lO E S A7 n7 c7 A8 n8 c8 where
  ga := ga
  es := h.es
  see := h.see.of (g.fr.block mb h.see.lt h.km.1)
  in_ := own_of h.in_ fun q e => g.fr.block q (h.in_.lt q e).2 (h.k7 q e).1
  inN := h.inN
  inE := h.inE
  cell := g.fr.bk h.cell h.ko.1
  out := own_of h.out fun q e => g.fr.block q (h.out.lt q e).2 (h.k8 q e).1
  outN := h.outN
  outE e he := (h.outE e he).keep (fun b hb => g.fr.block b (h.ga.loZ b hb) fun e => h.ga.kz b e hb) g.fr.size g.z
  inJ := Nat.le_trans h.inJ hj
  lo1 := h.lo1
  lom := h.lom
  loo := h.loo
  bel := h.bel.trans (g.fr.belowK (base := w0.heap.size) (fun b hb => Nat.le_trans h.lo1 (h.ga.lo b hb).1) h.bel.size)
  km := ⟨fun e => (g.kn mb e).elim h.km.1 fun e => absurd h.see.lt (by omega), fun e => (g.zn mb e).elim h.km.2 fun e => absurd h.see.lt (by omega)⟩
  ko := ⟨fun e => (g.kn ob e).elim h.ko.1 fun e => absurd h.cell.lt (by omega), fun e => (g.zn ob e).elim h.ko.2 fun e => absurd h.cell.lt (by omega)⟩
  k7 q hq := ⟨fun e => (g.kn q e).elim (h.k7 q hq).1 fun e => absurd (h.in_.lt q hq).2 (by omega), fun e => (g.zn q e).elim (h.k7 q hq).2 fun e => absurd (h.in_.lt q hq).2 (by omega)⟩
  k8 q hq := ⟨fun e => (g.kn q e).elim (h.k8 q hq).1 fun e => absurd (h.out.lt q hq).2 (by omega), fun e => (g.zn q e).elim (h.k8 q hq).2 fun e => absurd (h.out.lt q hq).2 (by omega)⟩
  ne := h.ne
theorem OnS.below (h : OnS w0 b1 F mb ob wr j G K Z lI lO E S A7 n7 c7 A8 n8 c8) (hb : Below wr.heap.size wr wr') : OnS w0 b1 F mb ob wr' j G K Z lI lO E S A7 n7 c7 A8 n8 c8 :=
  h.gro (Gro.refl (FrK.of_below hb (Nat.le_refl _) K)) (h.ga.below hb) (Nat.le_refl _)
/-- A span more that came. -/
theorem OnS.push (h : OnS w0 b1 F mb ob wr j G K Z lI lO E S A7 n7 c7 A8 n8 c8) {A9 : Option Addr} {c9 : Nat} {e : El} (gr : wr.grownBy wr' (Value.slice A7 n7 c7).ownBlock) (ow : wr'.ownsRow w0.heap.size 36 11 (.slice A9 (n7 + 1) c9) (n7 + 1) (els (lI ++ [e])))
    (bl : (Value.slice A9 (n7 + 1) c9).ownBlock = (Value.slice A7 n7 c7).ownBlock ∨ (Value.slice A9 (n7 + 1) c9).ownBlock = some wr.heap.size) (he : ElOk w0 w0.heap.size e) (hj : n7 + 1 ≤ j) :
    OnS w0 b1 F mb ob wr' j G K Z (lI ++ [e]) lO E S A9 (n7 + 1) c9 A8 n8 c8 := by
  have hf : FrK wr wr' (fun b => (Value.slice A7 n7 c7).ownBlock = some b) := FrK.of_grown gr fun b _ e => e
  have hne7 : ∀ g, (Value.slice A9 (n7 + 1) c9).ownBlock = some g → (Value.slice A7 n7 c7).ownBlock = some g ∨ g = wr.heap.size := fun g hg => by
    rcases bl with bl | bl
    · exact .inl (bl ▸ hg)
    · rw [bl] at hg
      exact .inr (Option.some.inj hg).symm
  have hbk7 : ∀ g, (Value.slice A7 n7 c7).ownBlock = some g → ∃ cur, Bk wr g 36 cur := fun g hg => own_bk h.in_ hg
  exact {
    ga := h.ga.keep hf (fun b hb e => (h.k7 b e).1 hb) fun b hb e => (h.k7 b e).2 hb
    es := h.es
    see := h.see.of (hf.block mb h.see.lt fun e => by
      obtain ⟨cur, hc⟩ := hbk7 mb e
      exact h.see.neBk hc rfl)
    in_ := ow
    inN := by rw [List.length_append, h.inN]; rfl
    inE := fun x hx => (List.mem_append.1 hx).elim (h.inE x) fun hx => by rw [List.mem_singleton.1 hx]; exact he
    cell := hf.bk h.cell fun e => by
      obtain ⟨cur, hc⟩ := hbk7 ob e
      exact ne_of_type hc h.cell (by decide) rfl
    out := own_of h.out fun q e => hf.block q (h.out.lt q e).2 fun e2 => h.ne q e2 e
    outN := h.outN
    outE := fun x hx => (h.outE x hx).keep (fun b hb => hf.block b (h.ga.loZ b hb) fun e => (h.k7 b e).2 hb) hf.size fun _ e => e
    inJ := hj
    lo1 := h.lo1
    lom := h.lom
    loo := h.loo
    bel := h.bel.trans (hf.below h.bel.size fun b e => (h.in_.lt b e).1)
    km := h.km
    ko := h.ko
    k7 := fun g hg => (hne7 g hg).elim (h.k7 g) fun e => ⟨fun e2 => by have := (h.ga.lo g e2).2; omega, fun e2 => by have := h.ga.loZ g e2; omega⟩
    k8 := h.k8
    ne := fun g hg e => (hne7 g hg).elim (fun e2 => h.ne g e2 e) fun e2 => by have := (h.out.lt g e).2; omega }
/-- A closed trace, told. -/
theorem OnS.told (h : OnS w0 b1 F mb ob wr j G K Z lI lO E S A7 n7 c7 A8 n8 c8) {t : Tr} {l : List El} {nl : Nat} {e : Ending} (hp : ToldP w0.heap.size wr mb ob E t A8 n8 c8 lO l nl e wr') (hl : l.length = nl) (hz : ∀ x ∈ l, ElZ wr Z x) :
    e = .returned (.bool true) ∧ ∃ E' A9 c9, OnS w0 b1 F mb ob wr' j G K Z lI (lO ++ l) E' (S ++ [t]) A7 n7 c7 A9 (n8 + nl) c9 := by
  obtain ⟨rfl, A9, c9, E', hm, hE, hB, ow, bl, hf⟩ := hp
  refine ⟨rfl, E', A9, c9, ?_⟩
  have hK : ∀ b, K b → ¬(b = mb ∨ b = ob ∨ (Value.slice A8 n8 c8).ownBlock = some b) := fun b hb e => by
    rcases e with rfl | rfl | e
    · exact h.km.1 hb
    · exact h.ko.1 hb
    · exact (h.k8 b e).1 hb
  have hZ : ∀ b, Z b → ¬(b = mb ∨ b = ob ∨ (Value.slice A8 n8 c8).ownBlock = some b) := fun b hb e => by
    rcases e with rfl | rfl | e
    · exact h.km.2 hb
    · exact h.ko.2 hb
    · exact (h.k8 b e).2 hb
  have hel : ∀ x : El, ElZ wr Z x → ElZ wr' Z x := fun x hx => hx.keep (fun b hb => hf.block b (h.ga.loZ b hb) (hZ b hb)) hf.size fun _ e => e
  have hne8 : ∀ g, (Value.slice A9 (n8 + nl) c9).ownBlock = some g → (Value.slice A8 n8 c8).ownBlock = some g ∨ wr.heap.size ≤ g := fun g hg => by
    rcases bl with bl | ⟨q, bl, hq⟩
    · exact .inl (bl ▸ hg)
    · rw [bl] at hg
      exact .inr ((Option.some.inj hg) ▸ hq)
  exact {
    ga := h.ga.keep hf hK hZ
    es := fun u => by
      rw [hE, h.es]
      simp
    see := hm
    in_ := own_of h.in_ fun q e => hf.block q (h.in_.lt q e).2 fun e2 => by
      rcases e2 with e2 | e2 | e2
      · obtain ⟨cur, hc⟩ := own_bk h.in_ e
        exact h.see.neBk hc e2
      · obtain ⟨cur, hc⟩ := own_bk h.in_ e
        exact ne_of_type hc h.cell (by decide) e2
      · exact h.ne q e e2
    inN := h.inN
    inE := h.inE
    cell := hB
    out := ow
    outN := by rw [List.length_append, h.outN, hl]
    outE := fun x hx => (List.mem_append.1 hx).elim (fun hx => hel x (h.outE x hx)) fun hx => hel x (hz x hx)
    inJ := h.inJ
    lo1 := h.lo1
    lom := h.lom
    loo := h.loo
    bel := h.bel.trans (hf.below h.bel.size fun b e => by
      rcases e with rfl | rfl | e
      · exact h.lom
      · exact h.loo
      · exact (h.out.lt b e).1)
    km := h.km
    ko := h.ko
    k7 := h.k7
    k8 := fun g hg => (hne8 g hg).elim (h.k8 g) fun e => ⟨fun e2 => by have := (h.ga.lo g e2).2; omega, fun e2 => by have := h.ga.loZ g e2; omega⟩
    ne := fun g hg e => (hne8 g e).elim (h.ne g hg) fun e2 => by have := (h.in_.lt g hg).2; omega }
end
end Go.Proofs.Ytoojpagpkbcfjaa

/- Layer 20: the walk of GatherOnce. Printed by tools/genGatherOnce.py. -/
namespace Go.Proofs.Ytoojpagpkbcfjaa
open Go.RowKit
attribute [local go_sem ↓] storeKA_shut loadTr_shut loadSp_shut loadAc_shut storeKG_shut loadGa_shut appKG_shut
theorem sps_append' (a b : List El) : sps (a ++ b) = sps a ++ sps b := by simp [sps]
set_option maxRecDepth 100000 in
theorem ldGa {w : World} {r n c : Nat} {t : Tr} {A : Option Addr} (h : Bk w r 43 #[.int .u64 (t.hi : Nat), .int .u64 (t.lo : Nat), .slice A n c]) : (loadK 43 ⟨r, 0, none⟩).run Try.prog w = .ok (.agg #[.int .u64 (t.hi : Nat), .int .u64 (t.lo : Nat), .slice A n c]) w :=
  run_loadVar_cells w _ _ ⟨r, 0, none⟩ [.int .u64 (t.hi : Nat), .int .u64 (t.lo : Nat), .slice A n c] Try.underlying43 rfl (by rfl) (fun j v hv => by
    rw [Addr.add_lit, Nat.zero_add, h.cell j]
    simpa using hv)
theorem add_win (G : GSt) (s : Sp) : (G.add s).1.win = G.win := by
  rw [GSt.add_eq]
  split
  · rfl
  · split
    · rfl
    · split
      · rfl
      · rfl
theorem closeDue_win : ∀ (f : Nat) (G : GSt), (GSt.closeDue f G).win = G.win
  | 0, G => rfl
  | f + 1, G => by
    simp only [GSt.closeDue]
    cases hf : GSt.first G.op with
    | none => rfl
    | some x =>
      simp only
      split
      · rw [closeDue_win f]
        rfl
      · rfl
theorem tick_win' (G : GSt) (n : Int) : (G.tick n).1.win = G.win := by
  unfold GSt.tick
  split
  · rfl
  · exact closeDue_win _ _
section
variable {w0 wr wr' : World} {b1 F mb ob j j' n7 c7 n8 c8 : Nat} {G G' : GSt} {K Z K' Z' : Nat → Prop} {lI lO : List El} {E S : List Tr} {A7 A8 : Option Addr}
theorem on8 (ho : Once G (sps lI) (sps lO) S) (h : OnS w0 b1 F mb ob wr j G K Z lI lO E S A7 n7 c7 A8 n8 c8) : n8 ≤ n7 := by
  have h1 := ho.perm.length_eq
  rw [List.length_append, sps_length, sps_length, h.inN, h.outN] at h1
  omega
theorem OnS.mono (h : OnS w0 b1 F mb ob wr j G K Z lI lO E S A7 n7 c7 A8 n8 c8) (hj : j ≤ j') : OnS w0 b1 F mb ob wr j' G K Z lI lO E S A7 n7 c7 A8 n8 c8 := { h with ga := h.ga.mono hj, inJ := Nat.le_trans h.inJ hj }
theorem OnS.cellS (h : OnS w0 b1 F mb ob wr j G K Z lI lO E S A7 n7 c7 A8 n8 c8) : wr.cell? ⟨ob, 0, none⟩ = some (.slice A8 n8 c8) := (h.cell.cell 0).trans rfl
theorem OnS.rI (h : OnS w0 b1 F mb ob wr j G K Z lI lO E S A7 n7 c7 A8 n8 c8) : RbS wr wr.heap.size A7 lI := ⟨Rd.of_own h.in_, fun e he => ((h.inE e he).below h.bel).more h.bel.size⟩
theorem OnS.rO (h : OnS w0 b1 F mb ob wr j G K Z lI lO E S A7 n7 c7 A8 n8 c8) : RbS wr wr.heap.size A8 lO := ⟨Rd.of_own h.out, fun e he => (h.outE e he).ok⟩
/-- Open, where nothing is open; Closed, where nothing waits. -/
theorem seOpen0 {base k : Nat} {w : World} (h : GaS base w K Z F G k) (hk : k ≤ 1000) (h0 : G.op = []) : Calls Try.prog 22 #[ptV F] w fun e w' => (∃ A c, e = .returned (.slice A 0 c)) ∧ Below w.heap.size w w' := by
  refine (seOpen h hk).mono ?_
  rintro e w' ⟨A, c, rfl, -, hb⟩
  rw [h0]
  exact ⟨⟨A, c, rfl⟩, hb⟩
theorem seClosed0 {base k : Nat} {w : World} (h : GaS base w K Z F G k) (hk : k ≤ 1000) (h0 : G.cl = []) : Calls Try.prog 16 #[ptV F] w fun e w' => (∃ A c, e = .returned (.slice A 0 c)) ∧ Below w.heap.size w w' := by
  refine (seClosed h hk).mono ?_
  rintro e w' ⟨A, c, rfl, -, hb⟩
  rw [h0]
  exact ⟨⟨A, c, rfl⟩, hb⟩
end
/-- The first loop's. -/
def OnR (w1 : World) (b1 F mb ob : Nat) (wr : World) (j : Nat) (A7 : Option Addr) (n7 c7 late : Nat) (win : Int) : Prop :=
  ∃ (G : GSt) (K Z : Nat → Prop) (lI lO : List El) (E S : List Tr) (A8 : Option Addr) (n8 c8 : Nat), late = G.late ∧ G.win = win ∧ Once G (sps lI) (sps lO) S ∧ OnS w1 b1 F mb ob wr j G K Z lI lO E S A7 n7 c7 A8 n8 c8
/-- The second loop's. -/
def OnR2 (w1 : World) (b1 F mb ob : Nat) (wr : World) (j : Nat) (A7 : Option Addr) (n7 c7 late : Nat) (lI : List El) (q : Nat) : Prop :=
  ∃ (G : GSt) (K Z : Nat → Prop) (lO : List El) (E S : List Tr) (A8 : Option Addr) (n8 c8 : Nat), late = G.late ∧ G.op = [] ∧ G.cl.length + q ≤ 151 ∧ Once G (sps lI) (sps lO) S ∧ OnS w1 b1 F mb ob wr j G K Z lI lO E S A7 n7 c7 A8 n8 c8
set_option maxRecDepth 100000 in
set_option maxHeartbeats 40000000 in
theorem gatherOnce_walk (win cap : Int) (A : Option Addr) (n c : Nat) (l : List GAc) (w : World) (_hs : I64g win ∧ I64g cap) (hl : InGActs w A n c l) :
    Calls Try.prog 5 #[.agg #[.int .i64 win, .int .i64 cap], .slice A n c] w fun e w' => e = .returned (.bool true) ∧ Below w.heap.size w w' := by
  have hmm := @run_makeMap Try.prog
  have b1 := Bk.new w 23 #[.int .i64 win, .int .i64 cap]
  have hb1 : Below w.heap.size w (w.alloc (.cells #[.int .i64 win, .int .i64 cap] 23)) := (Below.refl _ w).alloc (Nat.le_refl _) _
  obtain ⟨w1, e1⟩ : ∃ w1, w.alloc (.cells #[.int .i64 win, .int .i64 cap] 23) = w1 := ⟨_, rfl⟩
  obtain ⟨g1, hg1⟩ : ∃ g1, w.heap.size = g1 := ⟨_, rfl⟩
  rw [e1] at b1 hb1
  rw [hg1] at b1
  have HL : Hid (Rd w1 w1.heap.size A (flatR gacC l) ∧ l.length = n ∧ ∀ z ∈ l, GAcOk w1 w1.heap.size z) := Lib.hid ⟨Rd.more (Rd.below hl.rd hb1) hb1.size, hl.len, fun z hz => ⟨(hl.ok z hz).kind, (hl.ok z hz).n, ((hl.ok z hz).el.below hb1).more hb1.size⟩⟩
  have HB0 := Lib.hid hb1
  have BK1 := Lib.hid b1
  have E1 := Lib.hid e1
  have HG := Lib.hid hg1
  have hnm := hl.cap
  have hnm2 := hl.max
  simp only [maxLen] at hnm2
  clear b1 hb1 e1 hg1 hl _hs
  go_enter Try.func5, Try.ntmps5
  go_wp2_with fail
  rw [E1.out, HG.out]
  refine (gaLives w1).mono ?_
  rintro e w2 ⟨rfl, hb2⟩
  have HB2 := Lib.hid hb2
  clear hb2
  go_wp2_with fail
  refine (gaSmall (B := w1.heap.size) w2 (Rd.below HL.out.1 HB2.out) HL.out.2.1 HB2.out.size (by simp only [maxLen]; omega) fun z hz => (HL.out.2.2 z hz).el.below HB2.out).mono ?_
  rintro e w3 ⟨⟨q, rfl, hq⟩, hb3⟩
  have HB3 := Lib.hid (HB2.out.trans (hb3.mono HB2.out.size))
  clear hb3
  have FIN : Hid (∀ x, Below w1.heap.size w1 x → Below w.heap.size w x) := Lib.hid fun x hx => HB0.out.trans (hx.mono HB0.out.size)
  cases q with
  | false =>
    go_wp2_with fail
    go_ret
    exact ⟨rfl, FIN.out _ HB3.out⟩
  | true =>
  have hn150 := hq rfl
  clear hq
  have BK3 := Lib.hid (BK1.out.below HB3.out BK1.out.lt)
  have k30 : w3.cell? ⟨g1, 0, none⟩ = some (.int .i64 win) := (BK3.out.cell 0).trans rfl
  have k31 : w3.cell? ⟨g1, 1, none⟩ = some (.int .i64 cap) := (BK3.out.cell 1).trans rfl
  by_cases hchk : gaChk win cap = 0
  case neg =>
    obtain ⟨q, hq⟩ : ∃ q : Nat, gaChk win cap = q := ⟨_, rfl⟩
    have hq0 : ((q : Int) != 0) = true := by simp; omega
    go_wp2_with fail
    refine (gaNewBad w3 win cap hchk).mono ?_
    rintro e w4 ⟨rfl, hb4⟩
    have HB4 := Lib.hid (HB3.out.trans (hb4.mono HB3.out.size))
    clear hb4 k30 k31 hchk
    rw [hq]
    clear hq
    go_wp2_with fail
    go_ret
    exact ⟨rfl, FIN.out _ HB4.out⟩
  go_wp2_with fail
  refine (seNew w3 win cap hchk).mono ?_
  rintro e w4 ⟨F, rfl, h4, hb4⟩
  have HB4 := Lib.hid (HB3.out.trans (hb4.mono HB3.out.size))
  have bo5 := Bk.new w4 41 #[.slice none 0 0]
  have hb5 : Below w4.heap.size w4 (w4.alloc (.cells #[.slice none 0 0] 41)) := (Below.refl _ w4).alloc (Nat.le_refl _) _
  obtain ⟨w5, e5⟩ : ∃ w5, w4.alloc (.cells #[.slice none 0 0] 41) = w5 := ⟨_, rfl⟩
  rw [e5] at bo5 hb5
  have hs5 : w5.heap.size = w4.heap.size + 1 := by rw [← e5]; simp
  have mm6 := Mh.new (kv := trV) (vv := boV) w5
  have hb6 : Below w5.heap.size w5 (w5.alloc (.map #[] 0)) := (Below.refl _ w5).alloc (Nat.le_refl _) _
  have bo6 := bo5.alloc (.map #[] 0)
  obtain ⟨w6, e6⟩ : ∃ w6, w5.alloc (.map #[] 0) = w6 := ⟨_, rfl⟩
  rw [e6] at mm6 hb6 bo6
  obtain ⟨ob, hob⟩ : ∃ ob, w4.heap.size = ob := ⟨_, rfl⟩
  have hmb : w5.heap.size = ob + 1 := by omega
  have ga6 := (h4.below hb5).below hb6
  rw [hob] at ga6
  rw [hob] at bo6
  rw [hmb] at mm6
  have hlo3 : w1.heap.size ≤ w3.heap.size := HB3.out.size
  have hlo4 : w1.heap.size ≤ ob := by rw [← hob]; exact HB4.out.size
  obtain ⟨b1, hb1⟩ : ∃ b1, w3.heap.size = b1 := ⟨_, rfl⟩
  rw [hb1] at ga6 hlo3
  have OR0 : Hid (OnR w1 b1 F (ob + 1) ob w6 0 none 0 0 0 win) := Lib.hid ⟨GSt.new win cap, _, Kno, [], [], [], [], none, 0, 0, rfl, rfl, Once.new win cap, {
      ga := ga6, es := fun _ => Iff.rfl, see := mm6, in_ := World.ownsRow_nil w6 _ _ 11, inN := rfl, inE := (fun e he => by cases he), cell := bo6, out := World.ownsRow_nil w6 _ _ 11, outN := rfl, outE := (fun e he => by cases he), inJ := Nat.le_refl _, lo1 := hlo3, lom := Nat.le_succ_of_le hlo4, loo := hlo4,
      bel := (HB4.out.trans (hb5.mono HB4.out.size)).trans (hb6.mono (by have := HB4.out.size; omega)), km := ⟨fun e => by have := e.2; omega, fun e => e⟩, ko := ⟨fun e => by have := e.2; omega, fun e => e⟩, k7 := (fun g e => by cases e), k8 := (fun g e => by cases e), ne := (fun g e => by cases e) }⟩
  have E5 := Lib.hid e5
  have E6 := Lib.hid e6
  have HOB := Lib.hid (And.intro hob hmb)
  have HB1 := Lib.hid hb1
  clear h4 hb4 bo5 hb5 e5 e6 hs5 mm6 hb6 bo6 hob hmb ga6 hlo3 hlo4 k30 k31 hb1
  go_wp2_with fail
  rw [E5.out, E6.out, HOB.out.1]
  have hlast : ∀ (j : Nat) (v lt : Value) (i : Value), True := fun _ _ _ _ => trivial
  clear hlast
  go_loopw [7, 10, 11] (fun v lt i_ wr => ∃ (j : Nat) (A7 : Option Addr) (n7 c7 late : Nat), j ≤ n ∧ i_ = .int .i64 j ∧ v = .slice A7 n7 c7 ∧ lt = .int .i64 late ∧ Hid (OnR w1 b1 F (ob + 1) ob wr j A7 n7 c7 late win)) (fun _ _ i_ _ => n - (intOf i_).toNat)
  case atStart => exact ⟨0, none, 0, 0, 0, Nat.zero_le _, rfl, rfl, rfl, OR0⟩
  case round =>
    obtain ⟨j, A7, n7, c7, late, hj, rfl, rfl, rfl, HR⟩ := hrel
    by_cases hlt : j < n
    case neg =>
      have hlt' : ¬ (j : Int) < (n : Int) := by omega
      obtain ⟨G, K, Z, lI, lO, E, S, A8, n8, c8, hlate, hgw, ho0, h0⟩ := HR.out
      clear HR OR0
      have hd : OnS w1 b1 F (ob + 1) ob wr.drew j G K Z lI lO E S A7 n7 c7 A8 n8 c8 := h0.below (Below.refl _ wr).drew
      have H1 := Lib.hid hd
      have HO1 := Lib.hid ho0
      have HLT := Lib.hid hlate
      have hgk : ∀ x, Below w1.heap.size w1 x → x.cell? ⟨g1, 0, none⟩ = some (.int .i64 win) := fun x hx => ((BK1.out.below hx BK1.out.lt).cell 0).trans rfl
      have HGK := Lib.hid hgk
      have hbd := hd.bel
      have hok := hd.ga.ok
      have hw := hok.win
      rw [hgw] at hw
      have hw1 : IntKind.i64.wrap (1152921504606846976 - win) = 1152921504606846976 - win := by simp [IntKind.wrap, IntKind.bits, IntKind.signed]; omega
      have CN := Lib.hid (seNow hd.ga)
      have HOK := Lib.hid hok
      have HGW := Lib.hid hgw
      clear h0 ho0 hlate hd hok hgk hgw
      obtain ⟨nw, hnw⟩ : ∃ nw, G.now = nw := ⟨_, rfl⟩
      have HNW := Lib.hid hnw
      rw [hnw] at CN
      clear hnw
      by_cases hgt : 1152921504606846976 - win < nw
      · go_wp2_with fail
        go_region_held3 (fun w' => w'.cell? ⟨g1, 0, none⟩ = some (.int .i64 win))
          (exact HGK.out _ (by assumption))
          (first
            | (go_at_call 21
               refine CN.out.mono ?_
               rintro e y1 ⟨rfl, hby⟩
               have hbx := hbd.trans (hby.mono hbd.size))
            | fail)
        all_goals go_wp2_with fail
        all_goals go_ret
        all_goals exact ⟨rfl, FIN.out _ hbx⟩
      · go_wp2_with fail
        go_region_held3 (fun w' => w'.cell? ⟨g1, 0, none⟩ = some (.int .i64 win))
          (exact HGK.out _ (by assumption))
          (first
            | (go_at_call 21
               refine CN.out.mono ?_
               rintro e y1 ⟨rfl, hby⟩
               have hbx := hbd.trans (hby.mono hbd.size)
               have HY := Lib.hid hby)
            | fail)
        have H2 := Lib.hid (H1.out.below HY.out)
        have cy := HGK.out _ hbx
        clear hbd hbx CN
        go_wp2_with fail
        refine (seTick H2.out.ga (by omega) (n := win) ⟨by omega, by omega⟩).mono ?_
        rintro e y2 ⟨rfl, K3, Z3, gr, ga⟩
        obtain ⟨ho2, hl2⟩ := HO1.out.tick HOK.out win
        have hop : (G.tick win).1.op = [] := by
          have h1 := tick_win HOK.out (by rw [HGW.out, HNW.out]; omega)
          rwa [HGW.out] at h1
        have OR2 : Hid (OnR2 w1 b1 F (ob + 1) ob y2 j A7 n7 c7 late lI 0) := Lib.hid ⟨_, _, _, lO, E, S, A8, n8, c8, by rw [hl2]; exact HLT.out, hop, by have := (HOK.out.tick win).num; omega, ho2, H2.out.gro gr ga (Nat.le_refl _)⟩
        clear cy gr ga ho2 hl2 hop
        have hjn : j ≤ 150 := by omega
        go_wp2_with fail
        go_loopw [17] (fun i_ wr => ∃ q : Nat, q ≤ 151 ∧ i_ = .int .i64 q ∧ Hid (OnR2 w1 b1 F (ob + 1) ob wr j A7 n7 c7 late lI q)) (fun i_ _ => 151 - (intOf i_).toNat)
        case atStart => exact ⟨0, by omega, rfl, OR2⟩
        case round =>
          obtain ⟨q, hq, rfl, HR⟩ := hrel
          clear H1 HO1 H2 OR2 HLT HY HOK HGW HNW
          obtain ⟨G, K, Z, lO, E, S, A8, n8, c8, hlate, hop, hcq, ho0, h0⟩ := HR.out
          by_cases hqt : q ≤ 150
          · have hqt' : (q : Int) ≤ 150 := by omega
            have H1 := Lib.hid h0
            have HO1 := Lib.hid ho0
            have HLT := Lib.hid (And.intro hlate (And.intro hop hcq))
            clear h0 ho0 hlate hop hcq
            cases hcl : G.cl with
            | nil =>
              go_wp2_with fail
              refine (seNext H1.out.ga (by omega)).mono ?_
              rintro e x2 ⟨f2, ga, ⟨-, rfl⟩ | ⟨t, l', cl, cc, h1, -⟩⟩
              rotate_left
              · rw [hcl] at h1
                cases h1
              obtain ⟨x3, s3, k3, f3⟩ := gaBox2 (W := x2) (t := ⟨0, 0⟩) (l' := []) (A := none) (c := 0) (n := 0) rfl
              have s3' : (storeKG 43 ⟨x2.heap.size, 0, none⟩ (.agg #[.int .u64 0, .int .u64 0, .slice none 0 0])).run Try.prog (x2.alloc (.cells #[.int .u64 0, .int .u64 0, .slice none 0 0] 43)) = .ok () x3 := s3
              have f3b := f3.below (Nat.le_refl _) fun _ e => e.elim
              have ga3 := ga.below f3b
              rw [next_nil hcl] at ga3
              have H3 := Lib.hid (H1.out.gro (Gro.refl (f2.trans f3 fun _ _ e => e.elim)) ga3 (Nat.le_refl _))
              clear f2 ga k3 f3 f3b ga3 s3
              have HR2 : Hid (OnR2 w1 b1 F (ob + 1) ob x3 j A7 n7 c7 late lI (q + 1)) := Lib.hid ⟨_, _, _, lO, E, S, A8, n8, c8, HLT.out.1, HLT.out.2.1, by rw [hcl]; simp; omega, HO1.out, H3.out⟩
              go_wp2_with fail
              exact ⟨⟨q + 1, by omega, by go_num, HR2⟩, by simp only [intOf]; omega⟩
            | cons tl cl =>
              obtain ⟨t, ls⟩ := tl
              obtain ⟨nl, hnl⟩ : ∃ nl, ls.length = nl := ⟨_, rfl⟩
              go_wp2_with fail
              refine (seNext1 H1.out.ga (by omega) hcl hnl).mono ?_
              rintro e x2 ⟨f2, ga, A2, c2, l2, rfl, hz2, hs2, hl2⟩
              obtain ⟨hon, hnew⟩ := HO1.out.next hcl
              obtain ⟨x3, s3, k3, f3⟩ := gaBox2 (W := x2) (t := t) (A := A2) (c := c2) hl2
              have f3b := f3.below (Nat.le_refl _) fun _ e => e.elim
              have hz3 : ClZ x3 Z ⟨t, l2, A2, c2⟩ := hz2.keep (fun b hb => f3.block b (ga.loZ b hb) fun e => e) f3.size fun _ e => e
              have H3 := Lib.hid (H1.out.gro (Gro.refl (f2.trans f3 fun _ _ e => e.elim)) (ga.below f3b) (Nat.le_refl _))
              have hcp : ClP (t, sps l2) := by
                rw [hs2]
                exact H1.out.ga.ok.clp (t, ls) (by rw [hcl]; exact List.mem_cons_self ..)
              have lg := ldGa k3
              have CT := Lib.hid (gaTold (base := w1.heap.size) (lo := lO) (cc := c2) x3 H3.out.see (fun e => hnew ((H3.out.es t).1 e)) hl2 hz3.rd hcp H3.out.cell H3.out.out H3.out.bel.size (by have := on8 HO1.out H1.out; have := H1.out.inJ; omega))
              rw [← hs2, ← sps_append'] at hon
              have HON := Lib.hid hon
              have HZ3 := Lib.hid hz3
              clear f2 ga k3 f3 f3b hz2 hz3 hs2 hcp hnew hon
              go_wp2_with fail
              refine CT.out.mono ?_
              rintro e x4 hp
              obtain ⟨rfl, E', A9, c9, H4⟩ := H3.out.told hp hl2 HZ3.out.el
              have H4h := Lib.hid H4
              clear hp H4 CT lg s3
              have HR2 : Hid (OnR2 w1 b1 F (ob + 1) ob x4 j A7 n7 c7 late lI (q + 1)) := Lib.hid ⟨G.next, _, _, _, _, _, _, _, _, HLT.out.1, HLT.out.2.1, by have := HLT.out.2.2; rw [hcl] at this; unfold GSt.next; rw [hcl]; simp only [List.tail_cons, List.length_cons] at this ⊢; omega, HON.out, H4h.out⟩
              go_wp2_with fail
              exact ⟨⟨q + 1, by omega, by go_num, HR2⟩, by simp only [intOf]; omega⟩
          · have hqt' : ¬(q : Int) ≤ 150 := by omega
            have hcl0 : G.cl = [] := List.eq_nil_of_length_eq_zero (by omega)
            have hperm := ho0.done hop hcl0
            have hd : OnS w1 b1 F (ob + 1) ob wr.drew j G K Z lI lO E S A7 n7 c7 A8 n8 c8 := h0.below (Below.refl _ wr).drew
            have hbI : ∀ e ∈ lI, e.n ≤ 1000000 := fun e he => by
              have h1 := (hd.inE e he).len
              have h2 := chk_tags (ho0.chk e.s (List.mem_map.2 ⟨e, he, rfl⟩))
              omega
            have hbO : ∀ e ∈ lO, e.n ≤ 1000000 := fun e he => by
              have h1 := (hd.outE e he).ok.len
              have h2 := chk_tags (ho0.chk e.s (hperm.mem_iff.2 (List.mem_map.2 ⟨e, he, rfl⟩)))
              omega
            have hoo : ordS (sps lI) = ordS (sps lO) := ordS_same hperm
            have hn8 := on8 ho0 hd
            have hn7 := hd.inJ
            have HLT := Lib.hid hlate
            have HP := Lib.hid (And.intro hbI (And.intro hbO (And.intro hoo (And.intro hop hcl0))))
            clear h0 ho0 hlate hop hcq hperm hbI hbO hoo hcl0 HR
            go_wp2_with fail
            go_region_held3 (fun w' => w'.cell? ⟨ob, 0, none⟩ = some (.slice A8 n8 c8))
              (exact OnS.cellS (by assumption))
              (first
                | (go_at_call 22
                   refine (seOpen0 hd.ga (by omega) HP.out.2.2.2.1).mono ?_
                   rintro e y1 ⟨⟨Ao, co, rfl⟩, hb1⟩
                   have h1 := hd.below hb1)
                | (go_at_call 16
                   refine (seClosed0 h1.ga (by omega) HP.out.2.2.2.2).mono ?_
                   rintro e y2 ⟨⟨Ac, cc, rfl⟩, hb2⟩
                   have h2 := h1.below hb2)
                | (go_at_call 19
                   refine (seLate h2.ga).mono ?_
                   rintro e y3 ⟨rfl, hb3⟩
                   rw [← HLT.out]
                   have h3 := h2.below hb3)
                | (go_at_call_of 23 (Value.slice A7 n7 c7)
                   refine (rOrder (c := c7) y3 h3.rI h3.inN (Nat.le_refl _) (by omega) HP.out.1).mono ?_
                   rintro e y4 ⟨A9, c9, l9, rfl, hs9, hr9, hb4⟩
                   have h4 := h3.below hb4)
                | (go_at_call 23
                   refine (rOrder (c := c8) y4 h4.rO h4.outN (Nat.le_refl _) (by omega) HP.out.2.1).mono ?_
                   rintro e y5 ⟨A10, c10, l10, rfl, hs10, hr10, hb5⟩
                   have h5 := h4.below hb5
                   have q9 : RbS y5 y5.heap.size A9 l9 := RbS.bS ⟨Rd.of_own hr9.own, hr9.ok⟩ hb5
                   have q10 : RbS y5 y5.heap.size A10 l10 := ⟨Rd.of_own hr10.own, hr10.ok⟩)
                | (go_at_call 13
                   have cs := kitSames (c1 := c9) (c2 := c10) y5 q9 q10 hr9.len hr10.len (Nat.le_refl _) (by omega) (by omega)
                   rw [decide_eq_true (hs9.trans (HP.out.2.2.1.trans hs10.symm))] at cs
                   refine cs.mono ?_
                   rintro e y6 ⟨rfl, hb6⟩
                   have h6 := h5.below hb6)
                | fail)
            all_goals go_wp2_with fail
            all_goals go_ret
            all_goals exact ⟨rfl, FIN.out _ h6.bel⟩
    have hlt' : (j : Int) < (n : Int) := by omega
    obtain ⟨G, K, Z, lI, lO, E, S, A8, n8, c8, hlate, hwin, ho0, h0⟩ := HR.out
    have HWIN := Lib.hid hwin
    clear HR hwin
    obtain ⟨z, hz⟩ : ∃ z, l[j]? = some z := ⟨_, List.getElem?_eq_getElem (by rw [HL.out.2.1]; exact hlt)⟩
    have hzm := List.mem_of_getElem? hz
    have hzok := HL.out.2.2 z hzm
    obtain ⟨b, o, rfl, hbl, hc⟩ := flatR_at gacC_length (by omega) (Rd.below HL.out.1 h0.bel) hz
    have l1 := ldAc (w := wr) (b := b) (o := o + j * 13) (z := z) fun i hi => by
      rw [Nat.add_assoc]
      exact hc i hi
    obtain ⟨x1, s1, k1, f1⟩ := acBox z (Bk.new wr 38 #[.int .i64 0, .int .u64 0, .int .u64 0, .int .u64 0, .int .u64 0, .string ⟨#[]⟩, .string ⟨#[]⟩, .int .i64 0, .int .i64 0, .int .i64 0, .bool false, .slice none 0 0, .int .i64 0]) rfl
    have F1x : FrK wr x1 Kno := ((FrK.refl wr Kno).alloc _).trans f1 fun b hb e => absurd (show b = wr.heap.size from e) (by omega)
    have H1 := Lib.hid (h0.below (F1x.below (Nat.le_refl _) fun _ e => e.elim))
    have HO1 := Lib.hid ho0
    have KB1 := Lib.hid k1
    have hnK : ∀ b, K b → b < wr.heap.size := fun b e => (h0.ga.lo b e).2
    obtain ⟨r, hr⟩ : ∃ r, wr.heap.size = r := ⟨_, rfl⟩
    rw [hr] at s1 k1 hnK KB1
    have s1' : (storeKA 38 ⟨r, 0, none⟩ (gacV z)).run Try.prog (wr.alloc (.cells #[.int .i64 0, .int .u64 0, .int .u64 0, .int .u64 0, .int .u64 0, .string ⟨#[]⟩, .string ⟨#[]⟩, .int .i64 0, .int .i64 0, .int .i64 0, .bool false, .slice none 0 0, .int .i64 0] 38)) = .ok () x1 := s1
    have c10 : x1.cell? ⟨r, 0, none⟩ = some (.int .i64 z.kind) := (KB1.out.cell 0).trans rfl
    have HNK := Lib.hid hnK
    have HZ := Lib.hid (And.intro hzok hzm)
    have HLT := Lib.hid hlate
    have CP := Lib.hid (kitPick z.kind 4 x1 (by omega) (by omega))
    obtain ⟨kd, hkd⟩ : ∃ kd, z.kind % ((4 : Nat) : Int) = kd := ⟨_, rfl⟩
    rw [hkd] at CP
    clear hkd s1 k1 f1 F1x h0 ho0 hnK hz hzm hzok hc hbl hlate
    go_wp2_with fail
    refine CP.out.mono ?_
    rintro e xp ⟨rfl, rfl⟩
    clear CP l1 s1' c10
    by_cases hk2 : kd = 2
    · subst hk2
      have c12 : xp.cell? ⟨r, 12, none⟩ = some (.int .i64 z.n) := (KB1.out.cell 12).trans rfl
      go_wp2_with fail
      refine (seTick H1.out.ga (by omega) HZ.out.1.n).mono ?_
      rintro e x2 ⟨rfl, K1', Z1', gr, ga⟩
      obtain ⟨ho2, hl2⟩ := HO1.out.tick H1.out.ga.ok z.n
      have HR2 : Hid (OnR w1 b1 F (ob + 1) ob x2 (j + 1) A7 n7 c7 late win) := Lib.hid ⟨_, _, _, lI, lO, E, S, A8, n8, c8, by rw [hl2]; exact HLT.out, (tick_win' G z.n).trans HWIN.out, ho2, (H1.out.gro gr ga (Nat.le_refl _)).mono (Nat.le_succ j)⟩
      clear c12 gr ga ho2 hl2
      go_wp2_with fail
      exact ⟨⟨j + 1, A7, n7, c7, late, by omega, by go_num, rfl, rfl, HR2⟩, by simp only [intOf]; omega⟩
    · by_cases hk3 : kd = 3
      · subst hk3
        cases hcl : G.cl with
        | nil =>
          go_wp2_with fail
          refine (seNext H1.out.ga (by omega)).mono ?_
          rintro e x2 ⟨f2, ga, ⟨-, rfl⟩ | ⟨t, l', cl, cc, h1, -⟩⟩
          rotate_left
          · rw [hcl] at h1
            cases h1
          obtain ⟨x3, s3, k3, f3⟩ := gaBox2 (W := x2) (t := ⟨0, 0⟩) (l' := []) (A := none) (c := 0) (n := 0) rfl
          have s3' : (storeKG 43 ⟨x2.heap.size, 0, none⟩ (.agg #[.int .u64 0, .int .u64 0, .slice none 0 0])).run Try.prog (x2.alloc (.cells #[.int .u64 0, .int .u64 0, .slice none 0 0] 43)) = .ok () x3 := s3
          have f3b := f3.below (Nat.le_refl _) fun _ e => e.elim
          have ga3 := ga.below f3b
          rw [next_nil hcl] at ga3
          have H3 := Lib.hid (H1.out.gro (Gro.refl (f2.trans f3 fun _ _ e => e.elim)) ga3 (Nat.le_refl _))
          clear f2 ga k3 f3 f3b ga3 s3
          have HR2 : Hid (OnR w1 b1 F (ob + 1) ob x3 (j + 1) A7 n7 c7 late win) := Lib.hid ⟨_, _, _, lI, lO, E, S, A8, n8, c8, HLT.out, HWIN.out, HO1.out, H3.out.mono (Nat.le_succ j)⟩
          go_wp2_with fail
          exact ⟨⟨j + 1, A7, n7, c7, late, by omega, by go_num, rfl, rfl, HR2⟩, by simp only [intOf]; omega⟩
        | cons tl cl =>
          obtain ⟨t, ls⟩ := tl
          obtain ⟨nl, hnl⟩ : ∃ nl, ls.length = nl := ⟨_, rfl⟩
          go_wp2_with fail
          refine (seNext1 H1.out.ga (by omega) hcl hnl).mono ?_
          rintro e x2 ⟨f2, ga, A2, c2, l2, rfl, hz2, hs2, hl2⟩
          obtain ⟨hon, hnew⟩ := HO1.out.next hcl
          obtain ⟨x3, s3, k3, f3⟩ := gaBox2 (W := x2) (t := t) (A := A2) (c := c2) hl2
          have f3b := f3.below (Nat.le_refl _) fun _ e => e.elim
          have hz3 : ClZ x3 Z ⟨t, l2, A2, c2⟩ := hz2.keep (fun b hb => f3.block b (ga.loZ b hb) fun e => e) f3.size fun _ e => e
          have H3 := Lib.hid (H1.out.gro (Gro.refl (f2.trans f3 fun _ _ e => e.elim)) (ga.below f3b) (Nat.le_refl _))
          have hcp : ClP (t, sps l2) := by
            rw [hs2]
            exact H1.out.ga.ok.clp (t, ls) (by rw [hcl]; exact List.mem_cons_self ..)
          have lg := ldGa k3
          have CT := Lib.hid (gaTold (base := w1.heap.size) (lo := lO) (cc := c2) x3 H3.out.see (fun e => hnew ((H3.out.es t).1 e)) hl2 hz3.rd hcp H3.out.cell H3.out.out H3.out.bel.size (by have := on8 HO1.out H1.out; have := H1.out.inJ; omega))
          rw [← hs2, ← sps_append'] at hon
          have HON := Lib.hid hon
          have HZ3 := Lib.hid hz3
          clear f2 ga k3 f3 f3b hz2 hz3 hs2 hcp hnew hon
          go_wp2_with fail
          refine CT.out.mono ?_
          rintro e x4 hp
          obtain ⟨rfl, E', A9, c9, H4⟩ := H3.out.told hp hl2 HZ3.out.el
          have H4h := Lib.hid H4
          clear hp H4 CT lg s3
          have HR2 : Hid (OnR w1 b1 F (ob + 1) ob x4 (j + 1) A7 n7 c7 late win) := Lib.hid ⟨G.next, _, _, lI, _, _, _, _, _, _, HLT.out, HWIN.out, HON.out, H4h.out.mono (Nat.le_succ j)⟩
          go_wp2_with fail
          exact ⟨⟨j + 1, A7, n7, c7, late, by omega, by go_num, rfl, rfl, HR2⟩, by simp only [intOf]; omega⟩
      · have l2 := ldSpB KB1.out
        have hk2b : (kd == 2) = false := by rw [beq_eq_false_iff_ne]; exact hk2
        have hk3b : (kd == 3) = false := by rw [beq_eq_false_iff_ne]; exact hk3
        have hel0 := HZ.out.1.el
        have hel := hel0.below H1.out.bel
        have rd1 := Rd.more hel.rd H1.out.bel.size
        have CA := Lib.hid (seAdd (c := z.e.c) H1.out.ga (by omega) rd1 hel.len hel.max)
        have HEL := Lib.hid hel0
        clear hel rd1 hel0
        go_wp2_with fail
        refine CA.out.mono ?_
        rintro e x2 ⟨rfl, K1', Z1', gr, ga⟩
        have H2 := Lib.hid (H1.out.gro gr ga (Nat.le_succ j))
        have kb2 : Bk x2 r 38 (gacC z).toArray := gr.fr.bk KB1.out fun e => absurd (HNK.out r e) (by omega)
        have l3 := ldSpB kb2
        obtain ⟨hoa, hla⟩ := HO1.out.add H1.out.ga.ok z.e.s
        obtain ⟨p1, hp1⟩ : ∃ p1 : Nat, (G.add z.e.s).2.1 = p1 := ⟨_, rfl⟩
        obtain ⟨p2, hp2⟩ : ∃ p2 : Nat, (G.add z.e.s).2.2 = p2 := ⟨_, rfl⟩
        have htk : taken (G.add z.e.s).2 ↔ p2 = 0 ∧ p1 ≠ 2 := by
          unfold taken
          rw [hp1, hp2]
        rw [hp1, hp2] at hla
        rw [hp1, hp2]
        clear gr ga kb2 l2 CA hp1 hp2
        by_cases h20 : p2 = 0
        case neg =>
          have h20b : ((p2 : Int) == 0) = false := by rw [beq_eq_false_iff_ne]; omega
          rw [if_neg (fun e => h20 (htk.1 e).1)] at hoa
          rw [if_neg (fun e => h20 e.1)] at hla
          have HR2 : Hid (OnR w1 b1 F (ob + 1) ob x2 (j + 1) A7 n7 c7 late win) := Lib.hid ⟨_, _, _, lI, lO, E, S, A8, n8, c8, by rw [hla]; exact HLT.out, (add_win G z.e.s).trans HWIN.out, hoa, H2.out⟩
          clear hoa hla htk l3
          go_wp2_with fail
          exact ⟨⟨j + 1, A7, n7, c7, late, by omega, by go_num, rfl, rfl, HR2⟩, by simp only [intOf]; omega⟩
        subst h20
        by_cases h12 : p1 = 2
        · subst h12
          rw [if_neg (fun e => (htk.1 e).2 rfl)] at hoa
          rw [if_pos ⟨rfl, rfl⟩] at hla
          have hlt1 := H1.out.ga.ok.late
          have hlq := HLT.out
          have hwr : IntKind.i64.wrap ((late : Int) + 1) = ((late + 1 : Nat) : Int) := by simp [IntKind.wrap, IntKind.bits, IntKind.signed]; omega
          have HR2 : Hid (OnR w1 b1 F (ob + 1) ob x2 (j + 1) A7 n7 c7 (late + 1) win) := Lib.hid ⟨_, _, _, lI, lO, E, S, A8, n8, c8, by rw [hla, ← hlq], (add_win G z.e.s).trans HWIN.out, hoa, H2.out⟩
          clear hoa hla htk l3 hlt1 hlq
          go_wp2_with fail
          exact ⟨⟨j + 1, A7, n7, c7, late + 1, by omega, by go_num, rfl, rfl, HR2⟩, by simp only [intOf]; omega⟩
        · have h12b : ((p1 : Int) == 2) = false := by rw [beq_eq_false_iff_ne]; omega
          have h12c : ((p1 : Int) != 2) = true := by simp; omega
          rw [if_pos (htk.2 ⟨rfl, h12⟩)] at hoa
          rw [if_neg (fun e => h12 e.2)] at hla
          have hb3 : Below x2.heap.size x2 (x2.alloc (.cells (spC z.e.s z.e.A z.e.n z.e.c) 36)) := (Below.refl _ x2).alloc (Nat.le_refl _) _
          have H3 := Lib.hid (H2.out.below hb3)
          have lit := Bk.new x2 36 (spC z.e.s z.e.A z.e.n z.e.c)
          have hlit : Rd (x2.alloc (.cells (spC z.e.s z.e.A z.e.n z.e.c) 36)) (x2.alloc (.cells (spC z.e.s z.e.A z.e.n z.e.c) 36)).heap.size (some ⟨x2.heap.size, 0, none⟩) (els [z.e]) := fun _ => ⟨_, 0, rfl, lit.lt, fun i u hu => by
            rw [Nat.zero_add, lit.cell i]
            simpa [els, elC] using hu⟩
          obtain ⟨i0, hi0, hz0, hz1, hz2⟩ := info_parts spinfo
          have hj7 := H3.out.inJ
          obtain ⟨v', x4, hrun4, own4, gr4, blk4, ⟨A5, c5, rfl⟩, -⟩ := run_app (P := Try.prog) (w := x2.alloc (.cells (spC z.e.s z.e.A z.e.n z.e.c) 36)) w1.heap.size 41 41 36 i0 _ 11 120 Try.underlying41 hi0 hz0 hz1 hz2 rfl (by omega) (.slice A7 n7 c7) n7 (els lI) H3.out.in_ _ (some ⟨x2.heap.size, 0, none⟩) 1 1 (els [z.e]) (by rw [els_length]; rfl) hlit (els_one [z.e]) (by simp only [maxLen]; omega) (by omega) H3.out.bel.size
          change (appKG _ _ _).run _ _ = _ at hrun4
          rw [← els_append] at own4
          have H4 := H3.out.push gr4 own4 blk4 HEL.out (by have := H2.out.inJ; have := H1.out.inJ; omega)
          have HR2 : Hid (OnR w1 b1 F (ob + 1) ob x4 (j + 1) A5 (n7 + 1) c5 late win) := Lib.hid ⟨_, _, _, _, lO, E, S, A8, n8, c8, by rw [hla]; exact HLT.out, (add_win G z.e.s).trans HWIN.out, by rw [sps_append']; exact hoa, H4⟩
          clear hoa hla htk hb3 lit hlit hi0 hz0 hz1 hz2 own4 gr4 blk4 H4 hj7
          go_wp2_with fail
          exact ⟨⟨j + 1, A5, n7 + 1, c5, late, by omega, by go_num, rfl, rfl, HR2⟩, by simp only [intOf]; omega⟩
end Go.Proofs.Ytoojpagpkbcfjaa

/- The statement GatherOnce, out of its walk. -/
namespace Go.Proofs.Ytoojpagpkbcfjaa
open Go.ChangeShapes Go.WideShapes Go.ChangeAt Go.RowKit
open Go.ChangeMaps (open_string shut_string)

set_option maxRecDepth 100000 in
theorem gatherOnce_lifted (os : Os) (started : os.Started) (H : Type) (enc : TypeId × Value → H) :
    ReturnsInHanded {} Try.checked os 5 .any (Rows.gatherOnceSpec.pre6 enc Try.prog Try.f5 Rows.gatherOnceRow.domain false) (Rows.gatherOnceSpec.post enc Try.prog Try.f5 false true false false) := by
  refine returnsInHanded_of_change (C := Try.checked) ownKnob_none started (by kernel_rfl) Try.func5
    (ChangeSpec.witness6 (enc := enc) (C := Try.checked) false ⟨#[], #[.agg #[.int .i64 0, .int .i64 0], .slice none 0 0], []⟩ 8 (by kernel_rfl) (by kernel_rfl) (by kernel_rfl) (by kernel_rfl)) ?_
  intro W base args ds gs before hval0 hW _ _
  have hval : ∀ (j : Nat) t v, Try.f5.params[j]? = some t → args[j]? = some v → Value.okWide Try.prog W .any base t v := hval0
  have hW' := hW
  obtain ⟨p, q, hA0, hV, rfl, hfz, hnd⟩ := hW
  have hA : DataW.TrodAll enc Try.prog W 0 (fun _ => true) true Try.f5.params.toList args.toList ds p := hA0
  rw [Try.params5] at hA hval
  obtain ⟨v0, vs0, d0, ds0, p0, q0, hargs, rfl, rfl, h0, r0⟩ := trodAll_cons hA
  obtain ⟨v1, vs1, d1, ds1, p1, q1, rfl, rfl, rfl, h1, r1⟩ := trodAll_cons r0
  obtain ⟨rfl, rfl, rfl⟩ := trodAll_nil r1
  obtain rfl : args = #[v0, v1] := by cases args; simp_all
  obtain ⟨rfl, rfl⟩ := trodVars_none hV
  obtain ⟨u0_0, u0_1, he0, w0⟩ := open_inSetup (hval 0 23 v0 rfl rfl) h0
  subst he0
  have k0 := h0
  have lt0 : ∀ x ∈ p0, x.block < W.heap.size := by obtain ⟨m, hm⟩ := k0; exact DataW.trod_lt m _ _ _ hm
  obtain ⟨u1_0, u1_1, u1_2, u1_3, he1, w1⟩ := open_inGActs (hval 1 24 v1 rfl rfl) h1
  subst he1
  have k1 := h1
  have lt1 : ∀ x ∈ p1, x.block < W.heap.size := by obtain ⟨m, hm⟩ := k1; exact DataW.trod_lt m _ _ _ hm
  clear hA0 hval0
  refine (gatherOnce_walk u0_0 u0_1 u1_0 u1_1 u1_2 u1_3 W w0 w1).mono fun e W' ⟨he, bel⟩ => ?_
  subst he
  exact ⟨_, rfl, _, _, _, [], _, [], hW', trodAll_mk1 (shut_bool Try.underlying4 _), (trodAll_cons_mk (Below.trod laidOut (by kernel_rfl) (of_decide_eq_true (by kernel_rfl)) k0 bel lt0) (trodAll_cons_mk (Below.trod laidOut (by kernel_rfl) (of_decide_eq_true (by kernel_rfl)) k1 bel lt1) trodAll_mk0)), rfl, bel.frame _, fun h => by cases h⟩

/-- GatherOnce: for every input the law returns true, and what came in reads as it did. -/
theorem gatherOnce_holds : Rows.GatherOnceSaid :=
  OpenClaim.holds_of_wide 5 Try.f5 rfl rfl rfl rfl rfl rfl rfl ⟨rfl, rfl, rfl, rfl, rfl⟩ rfl rfl rfl rfl rfl (by kernel_rfl) Try.func5 (by kernel_rfl)
    (of_decide_eq_true (by kernel_rfl)) (by unfold Func.isWrapper; first | (rw [if_pos (by decide +kernel)]; kernel_rfl) | (rw [if_neg (by decide +kernel)]; exact ⟨rfl, rfl⟩))
    (fun os started H enc _ => gatherOnce_lifted os started H enc)
#print axioms gatherOnce_holds
end Go.Proofs.Ytoojpagpkbcfjaa
