/- Texts of the proof of GatherScriptSaid, joined: GaU GaV GaW GaX GaY GaZ GbA GbB. -/
import Derived.Test.YtoojpagpkbcfjaaGreatJGatherScript15
import Derived.Shelf.SlSortCmp.NoneTotal
/- Layer 20: Add, walked (printed by tools/genGaR.py out of tools/genGaU.txt). -/
namespace Go.Proofs.YtoojpagpkbcfjaaGreat
open Go.RowKit
attribute [local go_sem ↓] loadTr_shut loadSp_shut appKG_shut
section
variable {base F : Nat} {w w' : World} {K K' Z Z' : Nat → Prop} {G : GSt} {m : GMem}
/-- A lookup among the traces ever closed. -/
theorem Gf.lookE (h : Gf base w K Z F G m) (t : Tr) : (Instr.lookup 64 (.map (some m.eb)) (trV t) false).run Tryz.prog w = .ok (.bool (decide (t ∈ G.all))) w := by
  have h1 := run_mhLook (z := .bool false) (e := 4) trRun Tryz.underlying64 (by simp [Tryz.zeroValue4]) h.evr t false
  by_cases ht : t ∈ G.all
  · rw [mgGet_some h.evr.nodup (List.mem_map.2 ⟨t, (h.evrM t).2 ht, rfl⟩)] at h1
    rw [decide_eq_true ht]
    exact h1
  · have hn : mgGet t (m.E.map fun t => (t, true)) = none := by
      cases hq : mgGet t (m.E.map fun t => (t, true)) with
      | none => rfl
      | some v =>
        obtain ⟨t', ht', e⟩ := List.mem_map.1 (mgGet_mem hq)
        cases e
        exact absurd ((h.evrM t).1 ht') ht
    rw [hn] at h1
    rw [decide_eq_false ht]
    exact h1
theorem Gf.look2 (h : Gf base w K Z F G m) (t : Tr) : ∃ pv, (Instr.lookup 63 (.map (some m.ob)) (trV t) false).run Tryz.prog w = .ok pv w ∧ (G.get t = none → pv = .pointer none) ∧ (∀ x, G.get t = some x → pv = ptV (m.xb t)) := by
  have h1 := h.look t
  cases hg : G.get t with
  | none =>
    rw [hg] at h1
    exact ⟨_, h1, fun _ => rfl, fun x e => by cases e⟩
  | some x =>
    rw [hg] at h1
    exact ⟨_, h1, fun e => (by cases e), fun _ _ => rfl⟩
theorem chk_tags {s : Sp} (h : spChk s = 0) : s.tags.length ≤ 16 := by
  unfold spChk at h
  by_cases h1 : longB s = true
  · rw [if_pos h1] at h
    omega
  rw [if_neg h1] at h
  cases h2 : (headB s && tagsOk s.tags s.tags.length) with
  | false => rw [h2] at h; simp at h
  | true =>
    rw [Bool.and_eq_true] at h2
    have h3 := h2.2
    simp only [longB, Bool.or_eq_true, decide_eq_true_eq, not_or, Bool.not_eq_true] at h1
    omega
theorem Rd.frMh {κ ν : Type} {kv : κ → Value} {vv : ν → Value} {b B : Nat} {L : List (κ × ν)} {A : Option Addr} {xs : List Value} (h : Rd w B A xs) (hf : FrK w w' (Kis b)) (hM : Mh kv vv w b L) (hB : B ≤ w.heap.size) : Rd w' B A xs := fun hn => by
  obtain ⟨g, o, rfl, hg, hc⟩ := h hn
  refine ⟨g, o, rfl, hg, fun j u hj => (World.cell?_of_block (a := ⟨g, o + j, none⟩) (hf.block g (by omega) fun e => ?_)).trans (hc j u hj)⟩
  obtain ⟨es, c, hobj⟩ := hM.obj
  have e : g = b := e
  subst e
  have h1 := hc j u hj
  simp [World.cell?, hobj] at h1
theorem pushKeep {s : Sp} {A : Option Addr} {n c r : Nat} (h : Gf base w K Z F G m) (hB : Bk w r 40 (spC s A n c)) (hf : FrK w w' fun b => b = F ∨ m.tv.ownBlock = some b) : Bk w' r 40 (spC s A n c) := hf.bk hB (by
  rintro (e | e)
  · exact ne_of_type hB h.blk (by decide) e
  · obtain ⟨cur, hc⟩ := own_bk h.tur e
    exact ne_of_type hB hc (by decide) rfl)
/-- What Add comes to. -/
def AddP (base : Nat) (w : World) (K Z : Nat → Prop) (F : Nat) (G : GSt) (m : GMem) (s : Sp) (e : Ending) (w' : World) : Prop :=
  e = .returned (.tuple #[.int .i64 ((G.add s).2.1 : Nat), .int .i64 ((G.add s).2.2 : Nat)]) ∧ ∃ K' Z' m', (∀ b, K b → K' b) ∧ (∀ b, Z b → Z' b) ∧ (∀ b, K' b → K b ∨ w.heap.size ≤ b) ∧ (∀ b, Z' b → Z b ∨ w.heap.size ≤ b) ∧ m'.ex = none ∧ m'.dl.length ≤ m.dl.length + 1 ∧ m'.ce.length ≤ m.ce.length + 1 ∧
    Gf base w' K' Z' F (G.add s).1 m' ∧ FrK w w' K
set_option maxRecDepth 100000 in
set_option maxHeartbeats 8000000 in
theorem gaAdd {s : Sp} {A : Option Addr} {n c : Nat} (h : Gf base w K Z F G m) (hex : m.ex = none) (hs : OpS G.op) (hdl : m.dl.length ≤ 1000000) (hce : m.ce.length ≤ 1000000) (hop : ∀ x ∈ G.op, x.l.length ≤ 1000 ∧ (x.l.length : Int) < G.cap ∧ ∀ s ∈ x.l, s.tags.length ≤ 1000000) (hcap : 1 ≤ G.cap ∧ G.cap ≤ 1000)
    (hlate : G.late ≤ 1000000) (ha : RbT w w.heap.size A s.tags) (hn : s.tags.length = n) (hnl : n ≤ 9223372036854775807) : Calls Tryz.prog 16 #[ptV F, spV s A n c] w (AddP base w K Z F G m s) := by
  have h1 := (h.below ((Below.refl _ w).alloc (Nat.le_refl _) (.cells (spC s A n c) 40)))
  have b1 := Bk.new w 40 (spC s A n c)
  have f1 := (FrK.refl w K).alloc (.cells (spC s A n c) 40)
  have a1 : RbT (w.alloc (.cells (spC s A n c) 40)) (w.alloc (.cells (spC s A n c) 40)).heap.size A s.tags := Rd.more (Rd.alloc ha (Nat.le_refl _) (.cells (spC s A n c) 40)) (by simp)
  have s1 : (w.alloc (.cells (spC s A n c) 40)).heap.size = w.heap.size + 1 := by simp
  have hkr : ¬K w.heap.size := fun e => by
    have := (h.lo _ e).2
    omega
  obtain ⟨w1, e1⟩ : ∃ w1, w.alloc (.cells (spC s A n c) 40) = w1 := ⟨_, rfl⟩
  rw [e1] at h1 b1 f1 a1 s1
  obtain ⟨r, hr⟩ : ∃ r, w.heap.size = r := ⟨_, rfl⟩
  rw [hr] at b1 s1 hkr
  have CN := Lib.hid (gaNone h1)
  have CK := Lib.hid (spCheck (c := c) s w1 a1 hn (Nat.le_refl _) hnl)
  obtain ⟨k, hk⟩ : ∃ k, spChk s = k := ⟨_, rfl⟩
  rw [hk] at CK
  have H1 := Lib.hid h1
  have B1 := Lib.hid b1
  have A1 := Lib.hid a1
  have F1 := Lib.hid f1
  have HR := Lib.hid hr
  have S1 := Lib.hid s1
  have HK := Lib.hid hk
  have HN := Lib.hid hn
  have t1 := loadK_sp b1
  clear h h1 b1 a1 f1 s1 hk hn ha
  go_enter Tryz.func16, Tryz.ntmps16
  go_wp2_with fail
  clear e1 hr
  refine CN.out.mono ?_
  rintro e w1' ⟨rfl, rfl⟩
  clear CN
  go_wp2_with fail
  refine CK.out.mono ?_
  rintro e w2 ⟨rfl, hb2⟩
  have HB2 := Lib.hid hb2
  have h2 := H1.out.below hb2
  have b2 := B1.out.below hb2 B1.out.lt
  have H2 := Lib.hid h2
  have B2 := Lib.hid b2
  have F2 := Lib.hid (F1.out.trans (FrK.of_below hb2 (Nat.le_refl _) Kno) fun _ _ e => e.elim)
  clear CK hb2 F1 H1 B1
  cases k with
  | succ k =>
    clear h2 b2
    have hk0 : (((k + 1 : Nat) : Int) == 0) = false := by simp; omega
    go_wp2_with fail
    go_ret2
    have hadd : G.add s = (G, 0, k + 1) := by
      unfold GSt.add
      rw [if_pos (by rw [HK.out]; omega), HK.out]
    unfold AddP
    rw [hadd]
    exact ⟨rfl, K, Z, m, fun _ e => e, fun _ e => e, fun _ e => .inl e, fun _ e => .inl e, hex, Nat.le_succ _, Nat.le_succ _, H2.out, F2.out⟩
  | zero =>
    have c25 : w2.drew.cell? ⟨F, 5, none⟩ = some (.map (some m.eb)) := (h2.blk.cell 5).trans rfl
    have l25 := (h2.below (Below.refl _ w2).drew).lookE s.tr
    have t2 := loadK_trS (w := w2.drew) b2
    clear h2 b2 t1
    go_wp2_with fail
    go_region_held3 (fun w' => w'.cell? ⟨F, 5, none⟩ = some (.map (some m.eb)) ∧ (loadK 37 ⟨r, 0, none⟩).run Tryz.prog w' = .ok (trV s.tr) w' ∧ (Instr.lookup 64 (.map (some m.eb)) (trV s.tr) false).run Tryz.prog w' = .ok (.bool (decide (s.tr ∈ G.all))) w')
      (exact ⟨c25, t2, l25⟩) (fail)
    clear c25 l25 t2
    have HCH : Hid (¬spChk s ≠ 0) := Lib.hid fun e => e HK.out
    by_cases hall : s.tr ∈ G.all
    · have hallb : decide (s.tr ∈ G.all) = true := decide_eq_true hall
      have HALL := Lib.hid hall
      have h3 := H2.out.below (Below.refl _ w2).drew
      have c7 : w2.drew.cell? ⟨F, 7, none⟩ = some (.int .i64 (G.late : Nat)) := (h3.blk.cell 7).trans rfl
      have f7 := h3.blk.frozen 7
      have hwr : IntKind.i64.wrap ((G.late : Int) + 1) = ((G.late + 1 : Nat) : Int) := by simp [IntKind.wrap, IntKind.bits, IntKind.signed]; omega
      have HG4 := Lib.hid (h3.stored (G' := { G with late := G.late + 1 }) 7 (.int .i64 ((G.late + 1 : Nat) : Int)) (by simp [gaC]) rfl rfl rfl)
      have HF4 := Lib.hid ((F2.out.drew).trans (FrK.set w2.drew F 7 (.int .i64 ((G.late + 1 : Nat) : Int))) fun b _ e => by
        rw [show b = F from e]
        exact h3.kF)
      clear h3 hall
      go_wp2_with fail
      go_ret2
      have hadd : G.add s = ({ G with late := G.late + 1 }, 2, 0) := by
        unfold GSt.add
        rw [if_neg HCH.out, if_pos HALL.out]
      unfold AddP
      rw [hadd]
      exact ⟨rfl, K, Z, m, fun _ e => e, fun _ e => e, fun _ e => .inl e, fun _ e => .inl e, hex, Nat.le_succ _, Nat.le_succ _, HG4.out, HF4.out⟩
    · have hallb : decide (s.tr ∈ G.all) = false := decide_eq_false hall
      have HALL := Lib.hid hall
      have h3 := H2.out.below (Below.refl _ w2).drew
      have b3 : Bk w2.drew r 40 (spC s A n c) := B2.out
      have F3 := Lib.hid F2.out.drew
      have A3 : Hid (RbT w2.drew w1.heap.size A s.tags) := Lib.hid (Rd.drewN (Rd.below A1.out HB2.out) 1)
      have L3 : Hid (w1.heap.size ≤ w2.drew.heap.size) := Lib.hid HB2.out.size
      have htg := chk_tags HK.out
      rw [HN.out] at htg
      clear hall
      obtain ⟨w3, e3⟩ : ∃ w3, w2.drew = w3 := ⟨_, rfl⟩
      rw [e3] at h3 b3 F3 A3 L3 ⊢
      clear e3 H2 B2 F2
      have c33 : w3.drew.cell? ⟨F, 3, none⟩ = some (.map (some m.ob)) := (h3.blk.cell 3).trans rfl
      obtain ⟨pv, l3, hpn, hps⟩ := (h3.below (Below.refl _ w3).drew).look2 s.tr
      have t3 := loadK_trS (w := w3.drew) b3
      have HG3 := Lib.hid h3
      have HB3 := Lib.hid b3
      clear h3 b3
      have HPN := Lib.hid hpn
      have HPS := Lib.hid hps
      clear hpn hps
      go_wp2_with fail
      go_region_held3 (fun w' => w'.cell? ⟨F, 3, none⟩ = some (.map (some m.ob)) ∧ (loadK 37 ⟨r, 0, none⟩).run Tryz.prog w' = .ok (trV s.tr) w' ∧ (Instr.lookup 63 (.map (some m.ob)) (trV s.tr) false).run Tryz.prog w' = .ok pv w')
        (exact ⟨c33, t3, l3⟩) (fail)
      clear c33 t3 l3
      cases hget : G.get s.tr with
      | none =>
        obtain rfl := HPN.out hget
        have HGET := Lib.hid hget
        have hY : s.tr ∉ G.op.map (·.t) := fun e => by
          obtain ⟨y, hy, ey⟩ := List.mem_map.1 e
          have hf := List.find?_eq_none.1 (show G.op.find? (fun x => decide (x.t = s.tr)) = none from hget) y hy
          simp [ey] at hf
        have HADD : Hid (G.add s = if G.cap ≤ ((([] : List Sp) ++ [s]).length : Int) then (G.close s.tr ([] ++ [s]), 3, 0) else ({ G with op := GSt.putIn ⟨s.tr, [] ++ [s], G.now⟩ G.op }, 1, 0)) := Lib.hid (by
          unfold GSt.add
          rw [if_neg HCH.out, if_neg HALL.out, HGET.out])
        have HY := Lib.hid hY
        clear hget hY
        go_wp2_with fail
        have bB : Bk (w3.alloc (.cells #[.slice none 0 0, .int .i64 0] 85)).drew w3.heap.size 85 #[.slice none 0 0, .int .i64 0] := Bk.new w3 _ _
        have belB : Below w3.heap.size w3 (w3.alloc (.cells #[.slice none 0 0, .int .i64 0] 85)).drew := ((Below.refl _ w3).alloc (Nat.le_refl _) _).drew
        obtain ⟨wB, eB⟩ : ∃ wB, (w3.alloc (.cells #[.slice none 0 0, .int .i64 0] 85)).drew = wB := ⟨_, rfl⟩
        rw [eB] at bB belB ⊢
        clear eB
        obtain ⟨g, hg⟩ : ∃ g, w3.heap.size = g := ⟨_, rfl⟩
        rw [hg] at bB
        have HGG := Lib.hid hg
        rw [hg]
        have hGB := (HG3.out.below belB).below (Below.refl _ wB).drew
        have tB := loadK_trS (w := wB.drew) (HB3.out.below belB.drew HB3.out.lt)
        have cB3 : wB.drew.cell? ⟨F, 3, none⟩ = some (.map (some m.ob)) := (hGB.blk.cell 3).trans rfl
        obtain ⟨esC, nC, hrunC, hmC⟩ := run_mhPut (P := Tryz.prog) (w := wB.drew) trRun Tryz.underlying63 hGB.opn s.tr g
        rw [put_open (fun e => HY.out (hGB.opnP.mem_iff.1 e))] at hmC
        have hgC := putObj_grown wB.drew m.ob (.map esC nC)
        obtain ⟨wA, eC⟩ : ∃ wA, putObj wB.drew m.ob (.map esC nC) = wA := ⟨_, rfl⟩
        rw [eC] at hrunC hmC hgC
        clear eC
        have fC : FrK w3 wA (Kis m.ob) := ((FrK.of_below belB (Nat.le_refl _) (Kis m.ob)).drew).trans (FrK.of_grown (K := Kis m.ob) hgC fun b _ e => (Option.some.inj e).symm) fun _ _ e => e
        have bC : Bk wA g 85 #[.slice none 0 0, .int .i64 0] := (show Bk wB.drew g _ _ from bB).grown hgC fun e => by
          have h1 := HG3.out.opn.lt
          have h2 : g = m.ob := Option.some.inj e
          omega
        have hGC := HG3.out.opened hs HY.out (by omega) bC fC hmC hex
        have HGC := Lib.hid hGC
        have HFC := Lib.hid fC
        clear hGB hmC hgC fC bC hGC bB belB hg
        refine wp_region_K (k := 7) (S := fun w' => w'.cell? ⟨F, 3, none⟩ = some (.map (some m.ob)) ∧ (loadK 37 ⟨r, 0, none⟩).run Tryz.prog w' = .ok (trV s.tr) w') (by kernel_rfl) ⟨cB3, tB⟩ (fun hHeld => ?_)
        simp only [List.size_toArray, List.length_cons, List.length_nil, Nat.zero_add, Nat.reduceAdd]
        refine' wpAnyK_take0 (k := 7) (i := 0) ?o0 (by kernel_rfl) (by kernel_rfl) (by kernel_rfl) (by rfl) ?q0 hHeld ?hw0 ?hy0 ?_
        case o0 => (simp only [List.getElem?_toArray, List.getElem?_cons_succ, List.getElem?_cons_zero]; rfl)
        case q0 => exact fun _ _ _ h => h
        case hw0 => rfl
        case hy0 => (intro w; go_simp; try (with_reducible rfl))
        simp only [Act.put, List.setIfInBounds_toArray, List.set_cons_zero, List.set_cons_succ]
        refine' wpAnyK_take0 (k := 7) (i := 1) ?o1 (by kernel_rfl) (by kernel_rfl) (by kernel_rfl) (by rfl) ?q1 hHeld ?hw1 ?hy1 ?_
        case o1 => (simp only [List.getElem?_toArray, List.getElem?_cons_succ, List.getElem?_cons_zero]; rfl)
        case q1 => exact fun _ _ _ h => h
        case hw1 => rfl
        case hy1 => (intro w; go_simp; try (with_reducible rfl))
        simp only [Act.put, List.setIfInBounds_toArray, List.set_cons_zero, List.set_cons_succ]
        refine' wpAnyK_take0 (k := 7) (i := 2) ?o2 (by kernel_rfl) (by kernel_rfl) (by kernel_rfl) (by rfl) ?q2 hHeld ?hw2 ?hy2 ?_
        case o2 => (simp only [List.getElem?_toArray, List.getElem?_cons_succ, List.getElem?_cons_zero]; rfl)
        case q2 => exact fun _ _ _ h => h
        case hw2 => rfl
        case hy2 => (intro w; go_simp; try (with_reducible rfl))
        simp only [Act.put, List.setIfInBounds_toArray, List.set_cons_zero, List.set_cons_succ]
        refine' wpAnyK_take (k := 7) (i := 3) ?o3 (by kernel_rfl) (by kernel_rfl) (by kernel_rfl) (by kernel_rfl) (by kernel_rfl) ?q3 hHeld ?hw3 ?hy3 ?_
        case o3 => (simp only [List.getElem?_toArray, List.getElem?_cons_succ, List.getElem?_cons_zero]; rfl)
        case q3 => exact fun _ _ _ h => h
        case hw3 => rfl
        case hy3 => (intro w hSw; (try unfold AdS at hSw); (try dsimp only at hSw); go_simp; try (with_reducible rfl))
        simp only [Act.put, List.setIfInBounds_toArray, List.set_cons_zero, List.set_cons_succ]
        refine' wpAnyK_take0 (k := 7) (i := 4) ?o4 (by kernel_rfl) (by kernel_rfl) (by kernel_rfl) (by rfl) ?q4 hHeld ?hw4 ?hy4 ?_
        case o4 => (simp only [List.getElem?_toArray, List.getElem?_cons_succ, List.getElem?_cons_zero]; rfl)
        case q4 => exact fun _ _ _ h => h
        case hw4 => rfl
        case hy4 => (intro w; go_simp; try (with_reducible rfl))
        simp only [Act.put, List.setIfInBounds_toArray, List.set_cons_zero, List.set_cons_succ]
        refine' wpAnyK_take (k := 7) (i := 5) ?o5 (by kernel_rfl) (by kernel_rfl) (by kernel_rfl) (by kernel_rfl) (by kernel_rfl) ?q5 hHeld ?hw5 ?hy5 ?_
        case o5 => (simp only [List.getElem?_toArray, List.getElem?_cons_succ, List.getElem?_cons_zero]; rfl)
        case q5 => exact fun _ _ _ h => h
        case hw5 => rfl
        case hy5 => (intro w hSw; (try unfold AdS at hSw); (try dsimp only at hSw); go_simp; try (with_reducible rfl))
        simp only [Act.put, List.setIfInBounds_toArray, List.set_cons_zero, List.set_cons_succ]
        refine' wpAnyK_take0 (k := 7) (i := 6) ?o6 (by kernel_rfl) (by kernel_rfl) (by kernel_rfl) (by rfl) ?q6 hHeld ?hw6 ?hy6 ?_
        case o6 => (simp only [List.getElem?_toArray, List.getElem?_cons_succ, List.getElem?_cons_zero]; rfl)
        case q6 => exact fun _ _ _ h => h
        case hw6 => rfl
        case hy6 => (intro w; go_simp; try (with_reducible rfl))
        simp only [Act.put, List.setIfInBounds_toArray, List.set_cons_zero, List.set_cons_succ]
        refine wpAnyK_cut (by kernel_rfl) (by simp only [List.getElem?_toArray, List.getElem?_cons_succ, List.getElem?_cons_zero]; rfl) (by kernel_rfl) (by kernel_rfl) (by rfl) ?_
        clear cB3 tB hHeld
        go_simp
        clear hrunC
        go_wp2_with fail
        have hkO := HG3.out.kO
        have HBA : Hid (Bk wA r 40 (spC s A n c)) := Lib.hid (HFC.out.bk HB3.out fun e => HG3.out.opn.neBk HB3.out e)
        have FA : Hid (FrK w wA K) := Lib.hid (F3.out.trans HFC.out fun b _ e => (show b = m.ob from e) ▸ hkO)
        have HAA : Hid (RbT wA (w1.heap.size) A s.tags) := Lib.hid (Rd.frMh A3.out HFC.out HG3.out.opn L3.out)
        have HAL : Hid (w1.heap.size ≤ wA.heap.size) := Lib.hid (Nat.le_trans L3.out HFC.out.size)
        have FA0 : Hid (FrK wA wA.drew (fun b => K b ∨ b = g)) := Lib.hid ((FrK.refl wA _).drew)
        have HSA : Hid (OpS (GSt.putIn ⟨s.tr, [], 0⟩ G.op)) := Lib.hid (OpS.putIn hs)
        have HXA : Hid ((⟨s.tr, [], 0⟩ : Opn) ∈ GSt.putIn ⟨s.tr, [], 0⟩ G.op) := Lib.hid ((mem_putIn hs _).2 (.inl rfl))
        have HKR : Hid (¬(K r ∨ r = g)) := Lib.hid (by
          rintro (e | e)
          · exact hkr e
          · have h1 := HGG.out
            have h2 := S1.out
            have h3 := L3.out
            omega)
        have HKZ : Hid ((∀ b, K b → K b ∨ b = g) ∧ (∀ b, Z b → Z b) ∧ (∀ b, K b ∨ b = g → K b ∨ w.heap.size ≤ b) ∧ (∀ b, Z b → Z b ∨ w.heap.size ≤ b)) := Lib.hid ⟨fun _ e => .inl e, fun _ e => e, fun b e => e.imp id fun e => by
          have h1 := HGG.out
          have h2 := S1.out
          have h3 := L3.out
          have h4 := HR.out
          omega, fun _ e => .inl e⟩
        obtain ⟨opA, hopA⟩ : ∃ opA, opA = GSt.putIn ⟨s.tr, [], 0⟩ G.op := ⟨_, rfl⟩
        rw [← hopA] at HGC HSA HXA
        have HOP : Hid (opA = G.op ∨ opA = GSt.putIn ⟨s.tr, [], 0⟩ G.op) := Lib.hid (.inr hopA)
        obtain ⟨KA, hKA⟩ : ∃ KA, KA = fun b => K b ∨ b = g := ⟨_, rfl⟩
        obtain ⟨ZA, hZA⟩ : ∃ ZA, ZA = Z := ⟨_, rfl⟩
        have HKZ : Hid ((∀ b, K b → KA b) ∧ (∀ b, Z b → ZA b) ∧ (∀ b, KA b → K b ∨ w.heap.size ≤ b) ∧ (∀ b, ZA b → Z b ∨ w.heap.size ≤ b)) := by rw [hKA, hZA]; exact HKZ
        rw [← hKA, ← hZA] at HGC
        rw [← hKA] at FA0
        have HKR : Hid (¬KA r) := by rw [hKA]; exact HKR
        obtain ⟨mA, hmA⟩ : ∃ mA : GMem, mA = { m with Y := m.Y ++ [s.tr], xb := upf m.xb s.tr g, xv := upf m.xv s.tr (.slice none 0 0), xe := upf m.xe s.tr [], ex := some s.tr } := ⟨_, rfl⟩
        have HGA : Hid (Gf base wA KA ZA F { G with op := opA } mA) := by rw [hmA]; exact HGC
        have HEX : Hid (mA.ex = none ∨ mA.ex = some s.tr) := Lib.hid (.inr (by rw [hmA]))
        have HMA : Hid (mA.dl = m.dl ∧ mA.ce = m.ce) := Lib.hid (by rw [hmA]; exact ⟨rfl, rfl⟩)
        have hxb : g = mA.xb s.tr := by rw [hmA]; exact (upf_self _ _ _).symm
        rw [hxb]
        clear hmA hopA hKA hZA HGC HFC HG3 HB3 F3 A3 L3 hxb
        obtain ⟨xl, hxl⟩ : ∃ xl : List Sp, [] = xl := ⟨_, rfl⟩
        have hlx : xl.length ≤ 1000 := by rw [← hxl]; exact Nat.zero_le _
        have hlc : (xl.length : Int) < G.cap := by rw [← hxl]; exact hcap.1
        have HTG : Hid (∀ s ∈ xl, s.tags.length ≤ 1000000) := Lib.hid (by rw [← hxl]; intro u hu; cases hu)
        have HADD : Hid (G.add s = if G.cap ≤ ((xl ++ [s]).length : Int) then (G.close s.tr (xl ++ [s]), 3, 0) else ({ G with op := GSt.putIn ⟨s.tr, xl ++ [s], G.now⟩ G.op }, 1, 0)) := by
          obtain rfl := hxl
          exact HADD
        have HXA : Hid ((⟨s.tr, xl, 0⟩ : Opn) ∈ opA) := by rw [← hxl]; exact HXA
        obtain ⟨xtime, hxtime⟩ : ∃ xtime : Int, 0 = xtime := ⟨_, rfl⟩
        have HXA : Hid ((⟨s.tr, xl, xtime⟩ : Opn) ∈ opA) := by rw [← hxtime]; exact HXA
        clear hxtime hxl
        have hGA2 := HGA.out.below (Below.refl _ wA).drew
        have bA2 : Bk wA.drew r 40 (spC s A n c) := HBA.out
        have S0 := hGA2.adS HXA.out bA2 HKR.out (FrK.refl _ _)
        obtain ⟨A0, c0, hv, -, -⟩ := own_form (hGA2.xro _ HXA.out)
        have hv : mA.xv s.tr = .slice A0 xl.length c0 := hv
        rw [hv] at S0
        have CC := Lib.hid (spCopy (c := c) s wA.drew (Rd.drewN HAA.out 1) HN.out HAL.out (by omega))
        have HV := Lib.hid hv
        have HGA2 := Lib.hid hGA2
        have HBA2 := Lib.hid bA2
        clear hGA2 bA2 hv
        refine wp_region_K (k := 16) (S := AdS F r (mA.xb s.tr) (.slice A0 xl.length c0) s A n c G.now) (by kernel_rfl) S0 (fun hHeld => ?_)
        simp only [List.size_toArray, List.length_cons, List.length_nil, Nat.zero_add, Nat.reduceAdd]
        clear S0
        refine' wpAnyK_take0 (k := 16) (i := 0) ?o0 (by kernel_rfl) (by kernel_rfl) (by kernel_rfl) (by rfl) ?q0 hHeld ?hw0 ?hy0 ?_
        case o0 => (simp only [List.getElem?_toArray, List.getElem?_cons_succ, List.getElem?_cons_zero]; rfl)
        case q0 => exact fun _ _ _ h => h
        case hw0 => rfl
        case hy0 => (intro w; go_simp; try (with_reducible rfl))
        simp only [Act.put, List.setIfInBounds_toArray, List.set_cons_zero, List.set_cons_succ]
        refine' wpAnyK_take0 (k := 16) (i := 1) ?o1 (by kernel_rfl) (by kernel_rfl) (by kernel_rfl) (by rfl) ?q1 hHeld ?hw1 ?hy1 ?_
        case o1 => (simp only [List.getElem?_toArray, List.getElem?_cons_succ, List.getElem?_cons_zero]; rfl)
        case q1 => exact fun _ _ _ h => h
        case hw1 => rfl
        case hy1 => (intro w; go_simp; try (with_reducible rfl))
        simp only [Act.put, List.setIfInBounds_toArray, List.set_cons_zero, List.set_cons_succ]
        refine' wpAnyK_take0 (k := 16) (i := 2) ?o2 (by kernel_rfl) (by kernel_rfl) (by kernel_rfl) (by rfl) ?q2 hHeld ?hw2 ?hy2 ?_
        case o2 => (simp only [List.getElem?_toArray, List.getElem?_cons_succ, List.getElem?_cons_zero]; rfl)
        case q2 => exact fun _ _ _ h => h
        case hw2 => rfl
        case hy2 => (intro w; go_simp; try (with_reducible rfl))
        simp only [Act.put, List.setIfInBounds_toArray, List.set_cons_zero, List.set_cons_succ]
        refine' wpAnyK_take0 (k := 16) (i := 3) ?o3 (by kernel_rfl) (by kernel_rfl) (by kernel_rfl) (by rfl) ?q3 hHeld ?hw3 ?hy3 ?_
        case o3 => (simp only [List.getElem?_toArray, List.getElem?_cons_succ, List.getElem?_cons_zero]; rfl)
        case q3 => exact fun _ _ _ h => h
        case hw3 => rfl
        case hy3 => (intro w; go_simp; try (with_reducible rfl))
        simp only [Act.put, List.setIfInBounds_toArray, List.set_cons_zero, List.set_cons_succ]
        refine' wpAnyK_take0 (k := 16) (i := 4) ?o4 (by kernel_rfl) (by kernel_rfl) (by kernel_rfl) (by rfl) ?q4 hHeld ?hw4 ?hy4 ?_
        case o4 => (simp only [List.getElem?_toArray, List.getElem?_cons_succ, List.getElem?_cons_zero]; rfl)
        case q4 => exact fun _ _ _ h => h
        case hw4 => rfl
        case hy4 => (intro w; go_simp; try (with_reducible rfl))
        simp only [Act.put, List.setIfInBounds_toArray, List.set_cons_zero, List.set_cons_succ]
        refine' wpAnyK_take (k := 16) (i := 5) ?o5 (by kernel_rfl) (by kernel_rfl) (by kernel_rfl) (by kernel_rfl) (by kernel_rfl) ?q5 hHeld ?hw5 ?hy5 ?_
        case o5 => (simp only [List.getElem?_toArray, List.getElem?_cons_succ, List.getElem?_cons_zero]; rfl)
        case q5 => exact fun _ _ _ h => h
        case hw5 => rfl
        case hy5 => (intro w hSw; (try unfold AdS at hSw); (try dsimp only at hSw); go_simp; try (with_reducible rfl))
        simp only [Act.put, List.setIfInBounds_toArray, List.set_cons_zero, List.set_cons_succ]
        refine' wpAnyK_take (k := 16) (i := 6) ?o6 (by kernel_rfl) (by kernel_rfl) (by kernel_rfl) (by kernel_rfl) (by kernel_rfl) ?q6 hHeld ?hw6 ?hy6 ?_
        case o6 => (simp only [List.getElem?_toArray, List.getElem?_cons_succ, List.getElem?_cons_zero]; rfl)
        case q6 => exact fun _ _ _ h => h
        case hw6 => rfl
        case hy6 => (intro w hSw; (try unfold AdS at hSw); (try dsimp only at hSw); go_simp; try (with_reducible rfl))
        simp only [Act.put, List.setIfInBounds_toArray, List.set_cons_zero, List.set_cons_succ]
        refine' wpAnyK_take0 (k := 16) (i := 10) ?o10 (by kernel_rfl) (by kernel_rfl) (by kernel_rfl) (by rfl) ?q10 hHeld ?hw10 ?hy10 ?_
        case o10 => (simp only [List.getElem?_toArray, List.getElem?_cons_succ, List.getElem?_cons_zero]; rfl)
        case q10 => exact fun _ _ _ h => h
        case hw10 => rfl
        case hy10 => (intro w; go_simp; try (with_reducible rfl))
        simp only [Act.put, List.setIfInBounds_toArray, List.set_cons_zero, List.set_cons_succ]
        refine' wpAnyK_take0 (k := 16) (i := 11) ?o11 (by kernel_rfl) (by kernel_rfl) (by kernel_rfl) (by rfl) ?q11 hHeld ?hw11 ?hy11 ?_
        case o11 => (simp only [List.getElem?_toArray, List.getElem?_cons_succ, List.getElem?_cons_zero]; rfl)
        case q11 => exact fun _ _ _ h => h
        case hw11 => rfl
        case hy11 => (intro w; go_simp; try (with_reducible rfl))
        simp only [Act.put, List.setIfInBounds_toArray, List.set_cons_zero, List.set_cons_succ]
        refine' wpAnyK_take0 (k := 16) (i := 12) ?o12 (by kernel_rfl) (by kernel_rfl) (by kernel_rfl) (by rfl) ?q12 hHeld ?hw12 ?hy12 ?_
        case o12 => (simp only [List.getElem?_toArray, List.getElem?_cons_succ, List.getElem?_cons_zero]; rfl)
        case q12 => exact fun _ _ _ h => h
        case hw12 => rfl
        case hy12 => (intro w; go_simp; try (with_reducible rfl))
        simp only [Act.put, List.setIfInBounds_toArray, List.set_cons_zero, List.set_cons_succ]
        refine' wpAnyK_take (k := 16) (i := 13) ?o13 (by kernel_rfl) (by kernel_rfl) (by kernel_rfl) (by kernel_rfl) (by kernel_rfl) ?q13 hHeld ?hw13 ?hy13 ?_
        case o13 => (simp only [List.getElem?_toArray, List.getElem?_cons_succ, List.getElem?_cons_zero]; rfl)
        case q13 => exact fun _ _ _ h => h
        case hw13 => rfl
        case hy13 => (intro w hSw; (try unfold AdS at hSw); (try dsimp only at hSw); go_simp; try (with_reducible rfl))
        simp only [Act.put, List.setIfInBounds_toArray, List.set_cons_zero, List.set_cons_succ]
        refine' wpAnyK_step (k := 16) (i := 7) (by kernel_rfl) ?o7 ?hw7 ?_
        case o7 => (simp only [List.getElem?_toArray, List.getElem?_cons_succ, List.getElem?_cons_zero]; rfl)
        case hw7 => rfl
        intro KK hKK
        go_simp
        refine CC.out.mono ?_
        rintro e w5 ⟨A', c', rfl, hr5, hb5, -, hlo5, -⟩
        obtain ⟨v', w7, J⟩ := HGA2.out.adJ HSA.out HXA.out HEX.out HBA2.out HKR.out (by show xl.length ≤ _; omega) hr5 hb5 hlo5 HN.out hnl
        obtain ⟨hrun, J5, J6, J7, f70, J8, f81, ⟨A8, d8, rfl⟩, K9, Z9, m9, J9⟩ := J
        have J5 : AdS F r (mA.xb s.tr) (mA.xv s.tr) s A n c G.now w5 := J5
        have J7 : AdS F r (mA.xb s.tr) (mA.xv s.tr) s A n c G.now w7 := J7
        have J6 : AdS F r (mA.xb s.tr) (mA.xv s.tr) s A n c G.now (w5.alloc (.cells (spC s A' n c') 40)) := J6
        rw [show mA.xv ({ t := s.tr, l := xl, time := xtime } : Opn).t = _ from HV.out] at hrun
        rw [HV.out] at J5 J6 J7
        have HJ9 := Lib.hid J9
        clear hr5 hb5 hlo5 J9
        go_wp2_with fail
        clear hHeld
        refine hKK.out _ _ J5 (fun hHeld => ?_)
        clear hKK KK
        try simp only [Act.put, List.setIfInBounds_toArray, List.set_cons_zero, List.set_cons_succ]
        refine' wpAnyK_step (k := 16) (i := 8) (by kernel_rfl) ?o8 ?hw8 ?_
        case o8 => (simp only [List.getElem?_toArray, List.getElem?_cons_succ, List.getElem?_cons_zero]; rfl)
        case hw8 => rfl
        intro KK hKK
        go_simp
        clear hHeld
        refine hKK.out _ _ J6 (fun hHeld => ?_)
        clear hKK KK
        try simp only [Act.put, List.setIfInBounds_toArray, List.set_cons_zero, List.set_cons_succ]
        refine' wpAnyK_step (k := 16) (i := 9) (by kernel_rfl) ?o9 ?hw9 ?_
        case o9 => (simp only [List.getElem?_toArray, List.getElem?_cons_succ, List.getElem?_cons_zero]; rfl)
        case hw9 => rfl
        intro KK hKK
        go_simp
        clear hHeld
        refine hKK.out _ _ J7 (fun hHeld => ?_)
        clear hKK KK
        try simp only [Act.put, List.setIfInBounds_toArray, List.set_cons_zero, List.set_cons_succ]
        refine' wpAnyK_take0 (k := 16) (i := 14) ?o14 (by kernel_rfl) (by kernel_rfl) (by kernel_rfl) (by rfl) ?q14 hHeld ?hw14 ?hy14 ?_
        case o14 => (simp only [List.getElem?_toArray, List.getElem?_cons_succ, List.getElem?_cons_zero]; rfl)
        case q14 => exact fun _ _ _ h => h
        case hw14 => rfl
        case hy14 => (intro w; go_simp; try (with_reducible rfl))
        simp only [Act.put, List.setIfInBounds_toArray, List.set_cons_zero, List.set_cons_succ]
        refine' wpAnyK_take0 (k := 16) (i := 15) ?o15 (by kernel_rfl) (by kernel_rfl) (by kernel_rfl) (by rfl) ?q15 hHeld ?hw15 ?hy15 ?_
        case o15 => (simp only [List.getElem?_toArray, List.getElem?_cons_succ, List.getElem?_cons_zero]; rfl)
        case q15 => exact fun _ _ _ h => h
        case hw15 => rfl
        case hy15 => (intro w; go_simp; try (with_reducible rfl))
        simp only [Act.put, List.setIfInBounds_toArray, List.set_cons_zero, List.set_cons_succ]
        refine wpAnyK_cut2 (by kernel_rfl) (by simp only [List.getElem?_toArray, List.getElem?_cons_succ, List.getElem?_cons_zero]; rfl) (by kernel_rfl) (by rfl) ?_
        intro KK hKK
        have c70 := hHeld.1
        have f70 : w7.frozen? ⟨mA.xb s.tr, 0, none⟩ = false := f70
        have J8 : (w7.setCell ⟨mA.xb s.tr, 0, none⟩ (.slice A8 (xl.length + 1) d8)).cell? ⟨mA.xb s.tr, 1, none⟩ = some (.int .i64 xtime) := J8
        have f81 : (w7.setCell ⟨mA.xb s.tr, 0, none⟩ (.slice A8 (xl.length + 1) d8)).frozen? ⟨mA.xb s.tr, 1, none⟩ = false := f81
        clear hHeld
        go_simp
        refine hKK.out _ _ ?_
        clear hKK KK
        try simp only [Act.put, List.setIfInBounds_toArray, List.set_cons_zero, List.set_cons_succ]
        refine' wpAny_take (i := 17) ?o17 (by kernel_rfl) (by kernel_rfl) (by kernel_rfl) ?q17 (Or.inl ⟨?hw17, ?hy17⟩) ?_
        case o17 => (simp only [List.getElem?_toArray, List.getElem?_cons_succ, List.getElem?_cons_zero]; rfl)
        case q17 => exact fun _ _ _ h => h
        case hw17 => rfl
        case hy17 => (intro w; go_simp; try (with_reducible rfl))
        simp only [Act.put, List.setIfInBounds_toArray, List.set_cons_zero, List.set_cons_succ]
        refine' wpAny_take (i := 18) ?o18 (by kernel_rfl) (by kernel_rfl) (by kernel_rfl) ?q18 (Or.inl ⟨?hw18, ?hy18⟩) ?_
        case o18 => (simp only [List.getElem?_toArray, List.getElem?_cons_succ, List.getElem?_cons_zero]; rfl)
        case q18 => exact fun _ _ _ h => h
        case hw18 => rfl
        case hy18 => (intro w; go_simp; try (with_reducible rfl))
        simp only [Act.put, List.setIfInBounds_toArray, List.set_cons_zero, List.set_cons_succ]
        refine wpAny_last (i := 19) (by kernel_rfl) (by simp only [List.getElem?_toArray, List.getElem?_cons_succ, List.getElem?_cons_zero]; rfl) (by kernel_rfl) (by rfl) ?_
        go_simp
        obtain ⟨k9, z9, kn9, zn9, ex9, dl9, ce9, tv9, xb9, xv9, G9, F9, B9, kr9⟩ := HJ9.out
        obtain ⟨w9, e9⟩ : ∃ w9, (w7.setCell ⟨mA.xb s.tr, 0, none⟩ (.slice A8 (xl.length + 1) d8)).setCell ⟨mA.xb s.tr, 1, none⟩ (.int .i64 G.now) = w9 := ⟨_, rfl⟩
        have G9 : Gf base ((w7.setCell ⟨mA.xb s.tr, 0, none⟩ (.slice A8 (xl.length + 1) d8)).setCell ⟨mA.xb s.tr, 1, none⟩ (.int .i64 G.now)) K9 Z9 F { G with op := GSt.putIn ⟨s.tr, xl ++ [s], G.now⟩ opA } m9 := G9
        have F9 : FrK wA.drew ((w7.setCell ⟨mA.xb s.tr, 0, none⟩ (.slice A8 (xl.length + 1) d8)).setCell ⟨mA.xb s.tr, 1, none⟩ (.int .i64 G.now)) KA := F9
        have B9 : Bk ((w7.setCell ⟨mA.xb s.tr, 0, none⟩ (.slice A8 (xl.length + 1) d8)).setCell ⟨mA.xb s.tr, 1, none⟩ (.int .i64 G.now)) r 40 (spC s A n c) := B9
        rw [e9] at G9 F9 B9 ⊢
        clear hrun J5 J6 J7 f70 J8 f81 c70 e9 HJ9 CC
        have hmem9 : (⟨s.tr, xl ++ [s], G.now⟩ : Opn) ∈ GSt.putIn ⟨s.tr, xl ++ [s], G.now⟩ opA := (mem_putIn HSA.out _).2 (.inl rfl)
        have hdl9 : m9.dl = m.dl := dl9.trans HMA.out.1
        have hce9 : m9.ce = m.ce := ce9.trans HMA.out.2
        have hxb9 : m9.xb = mA.xb := xb9
        have hF9 := FA.out.trans (FA0.out.trans F9 fun b _ e => e) fun b hb e => (HKZ.out.2.2.1 b e).resolve_right (by omega)
        have hop9 : GSt.putIn ⟨s.tr, xl ++ [s], G.now⟩ opA = GSt.putIn ⟨s.tr, xl ++ [s], G.now⟩ G.op := by
          rcases HOP.out with e | e
          · rw [e]
          · rw [e, putIn_putIn (x := ⟨s.tr, xl ++ [s], G.now⟩) (y := ⟨s.tr, [], 0⟩) rfl]
        have c90 : w9.drew.cell? ⟨mA.xb s.tr, 0, none⟩ = some (.slice A8 (xl.length + 1) d8) := by
          have h1 := (G9.xfl _ hmem9).cell 0
          rw [show m9.xb ({ t := s.tr, l := xl ++ [s], time := G.now } : Opn).t = mA.xb s.tr from by rw [hxb9], show m9.xv ({ t := s.tr, l := xl ++ [s], time := G.now } : Opn).t = _ from xv9] at h1
          exact h1.trans rfl
        have c91 : w9.drew.cell? ⟨F, 1, none⟩ = some (.int .i64 G.cap) := (G9.blk.cell 1).trans rfl
        have HG9 := Lib.hid G9
        have HB9 := Lib.hid B9
        have HF9 := Lib.hid hF9
        have HX9 := Lib.hid (And.intro ex9 (And.intro hdl9 (And.intro hce9 hop9)))
        have HK9 : Hid ((∀ b, K b → K9 b) ∧ (∀ b, Z b → Z9 b) ∧ (∀ b, K9 b → K b ∨ w.heap.size ≤ b) ∧ (∀ b, Z9 b → Z b ∨ w.heap.size ≤ b)) := Lib.hid ⟨fun b e => k9 b (HKZ.out.1 b e), fun b e => z9 b (HKZ.out.2.1 b e), fun b e => (kn9 b e).elim (HKZ.out.2.2.1 b) fun e => .inr (Nat.le_trans FA.out.size e), fun b e => (zn9 b e).elim (HKZ.out.2.2.2 b) fun e => .inr (Nat.le_trans FA.out.size e)⟩
        have HM9 := Lib.hid hmem9
        clear k9 z9 kn9 zn9 ex9 dl9 ce9 tv9 xb9 xv9 G9 F9 B9 kr9 hmem9 hdl9 hce9 hxb9 hF9 hop9
        go_wp2_with fail
        go_region_held3 (fun w' => w'.cell? ⟨mA.xb s.tr, 0, none⟩ = some (.slice A8 (xl.length + 1) d8) ∧ w'.cell? ⟨F, 1, none⟩ = some (.int .i64 G.cap)) (exact ⟨c90, c91⟩) (fail)
        clear c90 c91
        by_cases hfull : G.cap ≤ ((xl ++ [s]).length : Int)
        · have hfe : (((xl.length + 1 : Nat) : Int) == G.cap) = true := by simp at hfull ⊢; omega
          have hfe' : ((xl.length : Int) + 1 == G.cap) = true := by simp at hfull ⊢; omega
          have hadd := HADD.out
          rw [if_pos hfull] at hadd
          have HAD := Lib.hid hadd
          have t9 := loadK_trS (w := w9.drew) HB9.out
          have CL := Lib.hid (gaClose (HG9.out.below (Below.refl _ w9).drew) HM9.out (.inr HX9.out.1) (by rw [HX9.out.2.2.1]; exact hce) (by simp; omega) (fun u hu => by
            rcases List.mem_append.1 hu with hu | hu
            · exact HTG.out u hu
            · rw [List.mem_singleton.1 hu, HN.out]
              omega))
          clear hfull hadd
          go_wp2_with fail
          refine CL.out.mono ?_
          rintro e w10 ⟨rfl, K10, Z10, m10, k10, z10, kn10, zn10, ex10, dl10, ce10, G10, F10⟩
          have HJ := Lib.hid (And.intro k10 (And.intro z10 (And.intro kn10 (And.intro zn10 (And.intro ex10 (And.intro dl10 (And.intro ce10 (And.intro G10 F10))))))))
          clear k10 z10 kn10 zn10 ex10 dl10 ce10 G10 F10 CL
          go_wp2_with fail
          go_ret2
          obtain ⟨k10, z10, kn10, zn10, ex10, dl10, ce10, G10, F10⟩ := HJ.out
          unfold AddP
          rw [HAD.out]
          refine ⟨rfl, K10, Z10, m10, fun b e => k10 b (HK9.out.1 b e), fun b e => z10 b (HK9.out.2.1 b e), fun b e => (kn10 b e).elim (HK9.out.2.2.1 b) fun e => .inr (Nat.le_trans HF9.out.size e), fun b e => (zn10 b e).elim (HK9.out.2.2.2 b) fun e => .inr (Nat.le_trans HF9.out.size e), ex10, by rw [dl10, HX9.out.2.1]; omega, by rw [ce10, HX9.out.2.2.1]; exact Nat.le_refl _, ?_, HF9.out.drew.trans F10 fun b hb e => (HK9.out.2.2.1 b e).resolve_right (by omega)⟩
          have hcl : GSt.close { G with op := GSt.putIn ⟨s.tr, xl ++ [s], G.now⟩ opA } s.tr (xl ++ [s]) = G.close s.tr (xl ++ [s]) := by
            unfold GSt.close
            simp only [HX9.out.2.2.2]
            rw [delOf_putIn ⟨s.tr, xl ++ [s], G.now⟩ G.op]
          rw [← hcl]
          exact G10
        · have hfe : (((xl.length + 1 : Nat) : Int) == G.cap) = false := by simp at hfull ⊢; omega
          have hfe' : ((xl.length : Int) + 1 == G.cap) = false := by simp at hfull ⊢; omega
          have hadd := HADD.out
          rw [if_neg hfull] at hadd
          have HAD := Lib.hid hadd
          have t9 := loadK_trS (w := w9.drew.drew) HB9.out
          have h9 := HG9.out.below ((Below.refl _ w9).drew.drew)
          have c92 : w9.drew.drew.cell? ⟨F, 2, none⟩ = some (.int .i64 G.now) := (h9.blk.cell 2).trans rfl
          have CP := Lib.hid (gaPush (v := m9.tv) w9.drew.drew h9.blk rfl h9.tur (by rw [HX9.out.2.1]; omega) h9.baseLe (s.tr, G.now))
          have H99 := Lib.hid h9
          clear hfull hadd h9
          go_wp2_with fail
          go_region_held3 (fun w' => w'.cell? ⟨F, 2, none⟩ = some (.int .i64 G.now) ∧ (loadK 37 ⟨r, 0, none⟩).run Tryz.prog w' = .ok (trV s.tr) w')
            (first | exact ⟨c92, t9⟩ | exact ⟨c102, t10⟩)
            (first
              | (go_at_call 42
                 refine CP.out.mono ?_
                 rintro e w10 ⟨rfl, v10, hB10, hD10, hF10, hbl10⟩
                 have c102 : w10.cell? ⟨F, 2, none⟩ = some (.int .i64 G.now) := by rw [hB10.cell 2]; simp [gaC]
                 have t10 := loadK_trS (pushKeep H99.out HB9.out hF10))
              | fail)
          have HJ := Lib.hid (And.intro hB10 (And.intro hD10 (And.intro hF10 hbl10)))
          clear hB10 hD10 hF10 hbl10 c102 t10 c92 t9
          go_wp2_with fail
          go_ret2
          obtain ⟨hB10, hD10, hF10, hbl10⟩ := HJ.out
          unfold AddP
          rw [HAD.out]
          obtain ⟨hh1, hh2⟩ := hPush_ok dLt_ok ((s.tr, G.now) : Due) H99.out.hp
          have hpl := hh2.length_eq
          rw [List.length_append, List.length_singleton] at hpl
          have hG10 := H99.out.turns (K' := fun b => K9 b ∨ v10.ownBlock = some b) hF10 hB10 hD10 (by rw [hpl]; exact hh1) (fun y hy => by
            refine hh2.mem_iff.2 (List.mem_append.2 ?_)
            rcases (mem_putIn (x := ⟨s.tr, xl ++ [s], G.now⟩) HSA.out y).1 hy with rfl | ⟨hy1, hy2⟩
            · exact .inr (List.mem_singleton.2 rfl)
            · exact .inl (H99.out.hin y hy (by
                rw [HX9.out.1]
                intro e
                injection e with e
                exact hy2 e.symm))) (fun _ e => .inl e) (fun g e => .inr e) (fun b hb hz => by
            rcases hb with hb | hb
            · exact HG9.out.kz b hb hz
            · rcases hbl10 with e | ⟨q, e, hq⟩
              · exact HG9.out.kz b (HG9.out.kT b (by rw [← e]; exact hb)) hz
              · rw [e] at hb
                cases hb
                have h1 := HG9.out.loZ b hz
                have h2 : w9.heap.size ≤ b := hq
                omega) (fun b hb => by
            rcases hb with hb | hb
            · exact ⟨(HG9.out.lo b hb).1, Nat.lt_of_lt_of_le (HG9.out.lo b hb).2 hF10.size⟩
            · obtain ⟨cur, hc⟩ := own_bk hD10 hb
              refine ⟨?_, hc.lt⟩
              rcases hbl10 with e | ⟨q, e, hq⟩
              · exact (HG9.out.lo b (HG9.out.kT b (by rw [← e]; exact hb))).1
              · rw [e] at hb
                cases hb
                exact Nat.le_trans H99.out.baseLe hq)
          refine ⟨rfl, fun b => K9 b ∨ v10.ownBlock = some b, Z9, { m9 with tv := v10, dl := hPush dLt m9.dl (s.tr, G.now), ex := none }, fun b e => .inl (HK9.out.1 b e), fun b e => HK9.out.2.1 b e, fun b e => ?_, fun b e => HK9.out.2.2.2 b e, ?e1, ?e2, ?e3, ?e4, HF9.out.drew.drew.trans hF10 fun b hb e => (HK9.out.2.2.1 b (e.elim (fun e => e ▸ HG9.out.kF) (HG9.out.kT b))).resolve_right (by omega)⟩
          case e4 =>
            rw [← HX9.out.2.2.2]
            exact hG10
          case e1 => rfl
          case e2 =>
            show (hPush dLt m9.dl (s.tr, G.now)).length ≤ _
            rw [hpl, HX9.out.2.1]
            exact Nat.le_refl _
          case e3 =>
            show m9.ce.length ≤ _
            rw [HX9.out.2.2.1]
            omega
          · rcases e with e | e
            · exact HK9.out.2.2.1 b e
            · rcases hbl10 with e2 | ⟨q, e2, hq⟩
              · exact HK9.out.2.2.1 b (HG9.out.kT b (by rw [← e2]; exact e))
              · rw [e2] at e
                cases e
                exact .inr (Nat.le_trans HF9.out.size hq)
      | some x =>
        obtain rfl := HPS.out x hget
        obtain ⟨hx, hxt⟩ := get_mem hget
        obtain ⟨xt, xl, xtime⟩ := x
        obtain rfl : xt = s.tr := hxt
        have HGET := Lib.hid hget
        have HADD : Hid (G.add s = if G.cap ≤ ((xl ++ [s]).length : Int) then (G.close s.tr (xl ++ [s]), 3, 0) else ({ G with op := GSt.putIn ⟨s.tr, xl ++ [s], G.now⟩ G.op }, 1, 0)) := Lib.hid (by
          unfold GSt.add
          rw [if_neg HCH.out, if_neg HALL.out, HGET.out])
        obtain ⟨hlx, hlc, hlt⟩ := hop _ hx
        have hlx : xl.length ≤ 1000 := hlx
        have hlc : (xl.length : Int) < G.cap := hlc
        have HTG : Hid (∀ s ∈ xl, s.tags.length ≤ 1000000) := Lib.hid hlt
        clear hget hlt
        go_wp2_with fail
        have HGA : Hid (Gf base w3.drew K Z F G m) := Lib.hid (HG3.out.below (Below.refl _ w3).drew)
        have HBA : Hid (Bk w3.drew r 40 (spC s A n c)) := Lib.hid HB3.out
        have FA : Hid (FrK w w3.drew K) := Lib.hid F3.out.drew
        have HAA : Hid (RbT w3.drew (w1.heap.size) A s.tags) := Lib.hid (Rd.drewN A3.out 1)
        have HAL : Hid (w1.heap.size ≤ w3.drew.heap.size) := Lib.hid L3.out
        obtain ⟨wA, eA⟩ : ∃ wA, w3.drew = wA := ⟨_, rfl⟩
        rw [eA] at HGA HBA FA HAA HAL ⊢
        clear eA
        have FA0 : Hid (FrK wA wA.drew K) := Lib.hid ((FrK.refl wA K).drew)
        have HSA : Hid (OpS G.op) := Lib.hid hs
        have HXA : Hid ((⟨s.tr, xl, xtime⟩ : Opn) ∈ G.op) := Lib.hid hx
        have HEX : Hid (m.ex = none ∨ m.ex = some s.tr) := Lib.hid (.inl hex)
        have HKR := Lib.hid hkr
        have HKZ : Hid ((∀ b, K b → K b) ∧ (∀ b, Z b → Z b) ∧ (∀ b, K b → K b ∨ w.heap.size ≤ b) ∧ (∀ b, Z b → Z b ∨ w.heap.size ≤ b)) := Lib.hid ⟨fun _ e => e, fun _ e => e, fun _ e => .inl e, fun _ e => .inl e⟩
        have HDL : Hid (m.dl = m.dl ∧ m.ce = m.ce) := Lib.hid ⟨rfl, rfl⟩
        obtain ⟨opA, hopA⟩ : ∃ opA, opA = G.op := ⟨_, rfl⟩
        have HGA : Hid (Gf base wA K Z F { G with op := opA } m) := by rw [hopA]; exact HGA
        rw [← hopA] at HSA HXA
        have HOP : Hid (opA = G.op ∨ opA = GSt.putIn ⟨s.tr, [], 0⟩ G.op) := Lib.hid (.inl hopA)
        obtain ⟨KA, hKA⟩ : ∃ KA, KA = K := ⟨_, rfl⟩
        obtain ⟨ZA, hZA⟩ : ∃ ZA, ZA = Z := ⟨_, rfl⟩
        have HKZ : Hid ((∀ b, K b → KA b) ∧ (∀ b, Z b → ZA b) ∧ (∀ b, KA b → K b ∨ w.heap.size ≤ b) ∧ (∀ b, ZA b → Z b ∨ w.heap.size ≤ b)) := by rw [hKA, hZA]; exact HKZ
        rw [← hKA, ← hZA] at HGA
        rw [← hKA] at FA0 HKR
        obtain ⟨mA, hmA⟩ : ∃ mA, mA = m := ⟨_, rfl⟩
        rw [← hmA] at HGA HEX ⊢
        have HMA : Hid (mA.dl = m.dl ∧ mA.ce = m.ce) := Lib.hid (by rw [hmA]; exact ⟨rfl, rfl⟩)
        clear hmA hopA hKA hZA
        have hGA2 := HGA.out.below (Below.refl _ wA).drew
        have bA2 : Bk wA.drew r 40 (spC s A n c) := HBA.out
        have S0 := hGA2.adS HXA.out bA2 HKR.out (FrK.refl _ _)
        obtain ⟨A0, c0, hv, -, -⟩ := own_form (hGA2.xro _ HXA.out)
        have hv : mA.xv s.tr = .slice A0 xl.length c0 := hv
        rw [hv] at S0
        have CC := Lib.hid (spCopy (c := c) s wA.drew (Rd.drewN HAA.out 1) HN.out HAL.out (by omega))
        have HV := Lib.hid hv
        have HGA2 := Lib.hid hGA2
        have HBA2 := Lib.hid bA2
        clear hGA2 bA2 hv
        refine wp_region_K (k := 16) (S := AdS F r (mA.xb s.tr) (.slice A0 xl.length c0) s A n c G.now) (by kernel_rfl) S0 (fun hHeld => ?_)
        simp only [List.size_toArray, List.length_cons, List.length_nil, Nat.zero_add, Nat.reduceAdd]
        clear S0
        refine' wpAnyK_take0 (k := 16) (i := 0) ?o0 (by kernel_rfl) (by kernel_rfl) (by kernel_rfl) (by rfl) ?q0 hHeld ?hw0 ?hy0 ?_
        case o0 => (simp only [List.getElem?_toArray, List.getElem?_cons_succ, List.getElem?_cons_zero]; rfl)
        case q0 => exact fun _ _ _ h => h
        case hw0 => rfl
        case hy0 => (intro w; go_simp; try (with_reducible rfl))
        simp only [Act.put, List.setIfInBounds_toArray, List.set_cons_zero, List.set_cons_succ]
        refine' wpAnyK_take0 (k := 16) (i := 1) ?o1 (by kernel_rfl) (by kernel_rfl) (by kernel_rfl) (by rfl) ?q1 hHeld ?hw1 ?hy1 ?_
        case o1 => (simp only [List.getElem?_toArray, List.getElem?_cons_succ, List.getElem?_cons_zero]; rfl)
        case q1 => exact fun _ _ _ h => h
        case hw1 => rfl
        case hy1 => (intro w; go_simp; try (with_reducible rfl))
        simp only [Act.put, List.setIfInBounds_toArray, List.set_cons_zero, List.set_cons_succ]
        refine' wpAnyK_take0 (k := 16) (i := 2) ?o2 (by kernel_rfl) (by kernel_rfl) (by kernel_rfl) (by rfl) ?q2 hHeld ?hw2 ?hy2 ?_
        case o2 => (simp only [List.getElem?_toArray, List.getElem?_cons_succ, List.getElem?_cons_zero]; rfl)
        case q2 => exact fun _ _ _ h => h
        case hw2 => rfl
        case hy2 => (intro w; go_simp; try (with_reducible rfl))
        simp only [Act.put, List.setIfInBounds_toArray, List.set_cons_zero, List.set_cons_succ]
        refine' wpAnyK_take0 (k := 16) (i := 3) ?o3 (by kernel_rfl) (by kernel_rfl) (by kernel_rfl) (by rfl) ?q3 hHeld ?hw3 ?hy3 ?_
        case o3 => (simp only [List.getElem?_toArray, List.getElem?_cons_succ, List.getElem?_cons_zero]; rfl)
        case q3 => exact fun _ _ _ h => h
        case hw3 => rfl
        case hy3 => (intro w; go_simp; try (with_reducible rfl))
        simp only [Act.put, List.setIfInBounds_toArray, List.set_cons_zero, List.set_cons_succ]
        refine' wpAnyK_take0 (k := 16) (i := 4) ?o4 (by kernel_rfl) (by kernel_rfl) (by kernel_rfl) (by rfl) ?q4 hHeld ?hw4 ?hy4 ?_
        case o4 => (simp only [List.getElem?_toArray, List.getElem?_cons_succ, List.getElem?_cons_zero]; rfl)
        case q4 => exact fun _ _ _ h => h
        case hw4 => rfl
        case hy4 => (intro w; go_simp; try (with_reducible rfl))
        simp only [Act.put, List.setIfInBounds_toArray, List.set_cons_zero, List.set_cons_succ]
        refine' wpAnyK_take (k := 16) (i := 5) ?o5 (by kernel_rfl) (by kernel_rfl) (by kernel_rfl) (by kernel_rfl) (by kernel_rfl) ?q5 hHeld ?hw5 ?hy5 ?_
        case o5 => (simp only [List.getElem?_toArray, List.getElem?_cons_succ, List.getElem?_cons_zero]; rfl)
        case q5 => exact fun _ _ _ h => h
        case hw5 => rfl
        case hy5 => (intro w hSw; (try unfold AdS at hSw); (try dsimp only at hSw); go_simp; try (with_reducible rfl))
        simp only [Act.put, List.setIfInBounds_toArray, List.set_cons_zero, List.set_cons_succ]
        refine' wpAnyK_take (k := 16) (i := 6) ?o6 (by kernel_rfl) (by kernel_rfl) (by kernel_rfl) (by kernel_rfl) (by kernel_rfl) ?q6 hHeld ?hw6 ?hy6 ?_
        case o6 => (simp only [List.getElem?_toArray, List.getElem?_cons_succ, List.getElem?_cons_zero]; rfl)
        case q6 => exact fun _ _ _ h => h
        case hw6 => rfl
        case hy6 => (intro w hSw; (try unfold AdS at hSw); (try dsimp only at hSw); go_simp; try (with_reducible rfl))
        simp only [Act.put, List.setIfInBounds_toArray, List.set_cons_zero, List.set_cons_succ]
        refine' wpAnyK_take0 (k := 16) (i := 10) ?o10 (by kernel_rfl) (by kernel_rfl) (by kernel_rfl) (by rfl) ?q10 hHeld ?hw10 ?hy10 ?_
        case o10 => (simp only [List.getElem?_toArray, List.getElem?_cons_succ, List.getElem?_cons_zero]; rfl)
        case q10 => exact fun _ _ _ h => h
        case hw10 => rfl
        case hy10 => (intro w; go_simp; try (with_reducible rfl))
        simp only [Act.put, List.setIfInBounds_toArray, List.set_cons_zero, List.set_cons_succ]
        refine' wpAnyK_take0 (k := 16) (i := 11) ?o11 (by kernel_rfl) (by kernel_rfl) (by kernel_rfl) (by rfl) ?q11 hHeld ?hw11 ?hy11 ?_
        case o11 => (simp only [List.getElem?_toArray, List.getElem?_cons_succ, List.getElem?_cons_zero]; rfl)
        case q11 => exact fun _ _ _ h => h
        case hw11 => rfl
        case hy11 => (intro w; go_simp; try (with_reducible rfl))
        simp only [Act.put, List.setIfInBounds_toArray, List.set_cons_zero, List.set_cons_succ]
        refine' wpAnyK_take0 (k := 16) (i := 12) ?o12 (by kernel_rfl) (by kernel_rfl) (by kernel_rfl) (by rfl) ?q12 hHeld ?hw12 ?hy12 ?_
        case o12 => (simp only [List.getElem?_toArray, List.getElem?_cons_succ, List.getElem?_cons_zero]; rfl)
        case q12 => exact fun _ _ _ h => h
        case hw12 => rfl
        case hy12 => (intro w; go_simp; try (with_reducible rfl))
        simp only [Act.put, List.setIfInBounds_toArray, List.set_cons_zero, List.set_cons_succ]
        refine' wpAnyK_take (k := 16) (i := 13) ?o13 (by kernel_rfl) (by kernel_rfl) (by kernel_rfl) (by kernel_rfl) (by kernel_rfl) ?q13 hHeld ?hw13 ?hy13 ?_
        case o13 => (simp only [List.getElem?_toArray, List.getElem?_cons_succ, List.getElem?_cons_zero]; rfl)
        case q13 => exact fun _ _ _ h => h
        case hw13 => rfl
        case hy13 => (intro w hSw; (try unfold AdS at hSw); (try dsimp only at hSw); go_simp; try (with_reducible rfl))
        simp only [Act.put, List.setIfInBounds_toArray, List.set_cons_zero, List.set_cons_succ]
        refine' wpAnyK_step (k := 16) (i := 7) (by kernel_rfl) ?o7 ?hw7 ?_
        case o7 => (simp only [List.getElem?_toArray, List.getElem?_cons_succ, List.getElem?_cons_zero]; rfl)
        case hw7 => rfl
        intro KK hKK
        go_simp
        refine CC.out.mono ?_
        rintro e w5 ⟨A', c', rfl, hr5, hb5, -, hlo5, -⟩
        obtain ⟨v', w7, J⟩ := HGA2.out.adJ HSA.out HXA.out HEX.out HBA2.out HKR.out (by show xl.length ≤ _; omega) hr5 hb5 hlo5 HN.out hnl
        obtain ⟨hrun, J5, J6, J7, f70, J8, f81, ⟨A8, d8, rfl⟩, K9, Z9, m9, J9⟩ := J
        have J5 : AdS F r (mA.xb s.tr) (mA.xv s.tr) s A n c G.now w5 := J5
        have J7 : AdS F r (mA.xb s.tr) (mA.xv s.tr) s A n c G.now w7 := J7
        have J6 : AdS F r (mA.xb s.tr) (mA.xv s.tr) s A n c G.now (w5.alloc (.cells (spC s A' n c') 40)) := J6
        rw [show mA.xv ({ t := s.tr, l := xl, time := xtime } : Opn).t = _ from HV.out] at hrun
        rw [HV.out] at J5 J6 J7
        have HJ9 := Lib.hid J9
        clear hr5 hb5 hlo5 J9
        go_wp2_with fail
        clear hHeld
        refine hKK.out _ _ J5 (fun hHeld => ?_)
        clear hKK KK
        try simp only [Act.put, List.setIfInBounds_toArray, List.set_cons_zero, List.set_cons_succ]
        refine' wpAnyK_step (k := 16) (i := 8) (by kernel_rfl) ?o8 ?hw8 ?_
        case o8 => (simp only [List.getElem?_toArray, List.getElem?_cons_succ, List.getElem?_cons_zero]; rfl)
        case hw8 => rfl
        intro KK hKK
        go_simp
        clear hHeld
        refine hKK.out _ _ J6 (fun hHeld => ?_)
        clear hKK KK
        try simp only [Act.put, List.setIfInBounds_toArray, List.set_cons_zero, List.set_cons_succ]
        refine' wpAnyK_step (k := 16) (i := 9) (by kernel_rfl) ?o9 ?hw9 ?_
        case o9 => (simp only [List.getElem?_toArray, List.getElem?_cons_succ, List.getElem?_cons_zero]; rfl)
        case hw9 => rfl
        intro KK hKK
        go_simp
        clear hHeld
        refine hKK.out _ _ J7 (fun hHeld => ?_)
        clear hKK KK
        try simp only [Act.put, List.setIfInBounds_toArray, List.set_cons_zero, List.set_cons_succ]
        refine' wpAnyK_take0 (k := 16) (i := 14) ?o14 (by kernel_rfl) (by kernel_rfl) (by kernel_rfl) (by rfl) ?q14 hHeld ?hw14 ?hy14 ?_
        case o14 => (simp only [List.getElem?_toArray, List.getElem?_cons_succ, List.getElem?_cons_zero]; rfl)
        case q14 => exact fun _ _ _ h => h
        case hw14 => rfl
        case hy14 => (intro w; go_simp; try (with_reducible rfl))
        simp only [Act.put, List.setIfInBounds_toArray, List.set_cons_zero, List.set_cons_succ]
        refine' wpAnyK_take0 (k := 16) (i := 15) ?o15 (by kernel_rfl) (by kernel_rfl) (by kernel_rfl) (by rfl) ?q15 hHeld ?hw15 ?hy15 ?_
        case o15 => (simp only [List.getElem?_toArray, List.getElem?_cons_succ, List.getElem?_cons_zero]; rfl)
        case q15 => exact fun _ _ _ h => h
        case hw15 => rfl
        case hy15 => (intro w; go_simp; try (with_reducible rfl))
        simp only [Act.put, List.setIfInBounds_toArray, List.set_cons_zero, List.set_cons_succ]
        refine wpAnyK_cut2 (by kernel_rfl) (by simp only [List.getElem?_toArray, List.getElem?_cons_succ, List.getElem?_cons_zero]; rfl) (by kernel_rfl) (by rfl) ?_
        intro KK hKK
        have c70 := hHeld.1
        have f70 : w7.frozen? ⟨mA.xb s.tr, 0, none⟩ = false := f70
        have J8 : (w7.setCell ⟨mA.xb s.tr, 0, none⟩ (.slice A8 (xl.length + 1) d8)).cell? ⟨mA.xb s.tr, 1, none⟩ = some (.int .i64 xtime) := J8
        have f81 : (w7.setCell ⟨mA.xb s.tr, 0, none⟩ (.slice A8 (xl.length + 1) d8)).frozen? ⟨mA.xb s.tr, 1, none⟩ = false := f81
        clear hHeld
        go_simp
        refine hKK.out _ _ ?_
        clear hKK KK
        try simp only [Act.put, List.setIfInBounds_toArray, List.set_cons_zero, List.set_cons_succ]
        refine' wpAny_take (i := 17) ?o17 (by kernel_rfl) (by kernel_rfl) (by kernel_rfl) ?q17 (Or.inl ⟨?hw17, ?hy17⟩) ?_
        case o17 => (simp only [List.getElem?_toArray, List.getElem?_cons_succ, List.getElem?_cons_zero]; rfl)
        case q17 => exact fun _ _ _ h => h
        case hw17 => rfl
        case hy17 => (intro w; go_simp; try (with_reducible rfl))
        simp only [Act.put, List.setIfInBounds_toArray, List.set_cons_zero, List.set_cons_succ]
        refine' wpAny_take (i := 18) ?o18 (by kernel_rfl) (by kernel_rfl) (by kernel_rfl) ?q18 (Or.inl ⟨?hw18, ?hy18⟩) ?_
        case o18 => (simp only [List.getElem?_toArray, List.getElem?_cons_succ, List.getElem?_cons_zero]; rfl)
        case q18 => exact fun _ _ _ h => h
        case hw18 => rfl
        case hy18 => (intro w; go_simp; try (with_reducible rfl))
        simp only [Act.put, List.setIfInBounds_toArray, List.set_cons_zero, List.set_cons_succ]
        refine wpAny_last (i := 19) (by kernel_rfl) (by simp only [List.getElem?_toArray, List.getElem?_cons_succ, List.getElem?_cons_zero]; rfl) (by kernel_rfl) (by rfl) ?_
        go_simp
        obtain ⟨k9, z9, kn9, zn9, ex9, dl9, ce9, tv9, xb9, xv9, G9, F9, B9, kr9⟩ := HJ9.out
        obtain ⟨w9, e9⟩ : ∃ w9, (w7.setCell ⟨mA.xb s.tr, 0, none⟩ (.slice A8 (xl.length + 1) d8)).setCell ⟨mA.xb s.tr, 1, none⟩ (.int .i64 G.now) = w9 := ⟨_, rfl⟩
        have G9 : Gf base ((w7.setCell ⟨mA.xb s.tr, 0, none⟩ (.slice A8 (xl.length + 1) d8)).setCell ⟨mA.xb s.tr, 1, none⟩ (.int .i64 G.now)) K9 Z9 F { G with op := GSt.putIn ⟨s.tr, xl ++ [s], G.now⟩ opA } m9 := G9
        have F9 : FrK wA.drew ((w7.setCell ⟨mA.xb s.tr, 0, none⟩ (.slice A8 (xl.length + 1) d8)).setCell ⟨mA.xb s.tr, 1, none⟩ (.int .i64 G.now)) KA := F9
        have B9 : Bk ((w7.setCell ⟨mA.xb s.tr, 0, none⟩ (.slice A8 (xl.length + 1) d8)).setCell ⟨mA.xb s.tr, 1, none⟩ (.int .i64 G.now)) r 40 (spC s A n c) := B9
        rw [e9] at G9 F9 B9 ⊢
        clear hrun J5 J6 J7 f70 J8 f81 c70 e9 HJ9 CC
        have hmem9 : (⟨s.tr, xl ++ [s], G.now⟩ : Opn) ∈ GSt.putIn ⟨s.tr, xl ++ [s], G.now⟩ opA := (mem_putIn HSA.out _).2 (.inl rfl)
        have hdl9 : m9.dl = m.dl := dl9.trans HMA.out.1
        have hce9 : m9.ce = m.ce := ce9.trans HMA.out.2
        have hxb9 : m9.xb = mA.xb := xb9
        have hF9 := FA.out.trans (FA0.out.trans F9 fun b _ e => e) fun b hb e => (HKZ.out.2.2.1 b e).resolve_right (by omega)
        have hop9 : GSt.putIn ⟨s.tr, xl ++ [s], G.now⟩ opA = GSt.putIn ⟨s.tr, xl ++ [s], G.now⟩ G.op := by
          rcases HOP.out with e | e
          · rw [e]
          · rw [e, putIn_putIn (x := ⟨s.tr, xl ++ [s], G.now⟩) (y := ⟨s.tr, [], 0⟩) rfl]
        have c90 : w9.drew.cell? ⟨mA.xb s.tr, 0, none⟩ = some (.slice A8 (xl.length + 1) d8) := by
          have h1 := (G9.xfl _ hmem9).cell 0
          rw [show m9.xb ({ t := s.tr, l := xl ++ [s], time := G.now } : Opn).t = mA.xb s.tr from by rw [hxb9], show m9.xv ({ t := s.tr, l := xl ++ [s], time := G.now } : Opn).t = _ from xv9] at h1
          exact h1.trans rfl
        have c91 : w9.drew.cell? ⟨F, 1, none⟩ = some (.int .i64 G.cap) := (G9.blk.cell 1).trans rfl
        have HG9 := Lib.hid G9
        have HB9 := Lib.hid B9
        have HF9 := Lib.hid hF9
        have HX9 := Lib.hid (And.intro ex9 (And.intro hdl9 (And.intro hce9 hop9)))
        have HK9 : Hid ((∀ b, K b → K9 b) ∧ (∀ b, Z b → Z9 b) ∧ (∀ b, K9 b → K b ∨ w.heap.size ≤ b) ∧ (∀ b, Z9 b → Z b ∨ w.heap.size ≤ b)) := Lib.hid ⟨fun b e => k9 b (HKZ.out.1 b e), fun b e => z9 b (HKZ.out.2.1 b e), fun b e => (kn9 b e).elim (HKZ.out.2.2.1 b) fun e => .inr (Nat.le_trans FA.out.size e), fun b e => (zn9 b e).elim (HKZ.out.2.2.2 b) fun e => .inr (Nat.le_trans FA.out.size e)⟩
        have HM9 := Lib.hid hmem9
        clear k9 z9 kn9 zn9 ex9 dl9 ce9 tv9 xb9 xv9 G9 F9 B9 kr9 hmem9 hdl9 hce9 hxb9 hF9 hop9
        go_wp2_with fail
        go_region_held3 (fun w' => w'.cell? ⟨mA.xb s.tr, 0, none⟩ = some (.slice A8 (xl.length + 1) d8) ∧ w'.cell? ⟨F, 1, none⟩ = some (.int .i64 G.cap)) (exact ⟨c90, c91⟩) (fail)
        clear c90 c91
        by_cases hfull : G.cap ≤ ((xl ++ [s]).length : Int)
        · have hfe : (((xl.length + 1 : Nat) : Int) == G.cap) = true := by simp at hfull ⊢; omega
          have hfe' : ((xl.length : Int) + 1 == G.cap) = true := by simp at hfull ⊢; omega
          have hadd := HADD.out
          rw [if_pos hfull] at hadd
          have HAD := Lib.hid hadd
          have t9 := loadK_trS (w := w9.drew) HB9.out
          have CL := Lib.hid (gaClose (HG9.out.below (Below.refl _ w9).drew) HM9.out (.inr HX9.out.1) (by rw [HX9.out.2.2.1]; exact hce) (by simp; omega) (fun u hu => by
            rcases List.mem_append.1 hu with hu | hu
            · exact HTG.out u hu
            · rw [List.mem_singleton.1 hu, HN.out]
              omega))
          clear hfull hadd
          go_wp2_with fail
          refine CL.out.mono ?_
          rintro e w10 ⟨rfl, K10, Z10, m10, k10, z10, kn10, zn10, ex10, dl10, ce10, G10, F10⟩
          have HJ := Lib.hid (And.intro k10 (And.intro z10 (And.intro kn10 (And.intro zn10 (And.intro ex10 (And.intro dl10 (And.intro ce10 (And.intro G10 F10))))))))
          clear k10 z10 kn10 zn10 ex10 dl10 ce10 G10 F10 CL
          go_wp2_with fail
          go_ret2
          obtain ⟨k10, z10, kn10, zn10, ex10, dl10, ce10, G10, F10⟩ := HJ.out
          unfold AddP
          rw [HAD.out]
          refine ⟨rfl, K10, Z10, m10, fun b e => k10 b (HK9.out.1 b e), fun b e => z10 b (HK9.out.2.1 b e), fun b e => (kn10 b e).elim (HK9.out.2.2.1 b) fun e => .inr (Nat.le_trans HF9.out.size e), fun b e => (zn10 b e).elim (HK9.out.2.2.2 b) fun e => .inr (Nat.le_trans HF9.out.size e), ex10, by rw [dl10, HX9.out.2.1]; omega, by rw [ce10, HX9.out.2.2.1]; exact Nat.le_refl _, ?_, HF9.out.drew.trans F10 fun b hb e => (HK9.out.2.2.1 b e).resolve_right (by omega)⟩
          have hcl : GSt.close { G with op := GSt.putIn ⟨s.tr, xl ++ [s], G.now⟩ opA } s.tr (xl ++ [s]) = G.close s.tr (xl ++ [s]) := by
            unfold GSt.close
            simp only [HX9.out.2.2.2]
            rw [delOf_putIn ⟨s.tr, xl ++ [s], G.now⟩ G.op]
          rw [← hcl]
          exact G10
        · have hfe : (((xl.length + 1 : Nat) : Int) == G.cap) = false := by simp at hfull ⊢; omega
          have hfe' : ((xl.length : Int) + 1 == G.cap) = false := by simp at hfull ⊢; omega
          have hadd := HADD.out
          rw [if_neg hfull] at hadd
          have HAD := Lib.hid hadd
          have t9 := loadK_trS (w := w9.drew.drew) HB9.out
          have h9 := HG9.out.below ((Below.refl _ w9).drew.drew)
          have c92 : w9.drew.drew.cell? ⟨F, 2, none⟩ = some (.int .i64 G.now) := (h9.blk.cell 2).trans rfl
          have CP := Lib.hid (gaPush (v := m9.tv) w9.drew.drew h9.blk rfl h9.tur (by rw [HX9.out.2.1]; omega) h9.baseLe (s.tr, G.now))
          have H99 := Lib.hid h9
          clear hfull hadd h9
          go_wp2_with fail
          go_region_held3 (fun w' => w'.cell? ⟨F, 2, none⟩ = some (.int .i64 G.now) ∧ (loadK 37 ⟨r, 0, none⟩).run Tryz.prog w' = .ok (trV s.tr) w')
            (first | exact ⟨c92, t9⟩ | exact ⟨c102, t10⟩)
            (first
              | (go_at_call 42
                 refine CP.out.mono ?_
                 rintro e w10 ⟨rfl, v10, hB10, hD10, hF10, hbl10⟩
                 have c102 : w10.cell? ⟨F, 2, none⟩ = some (.int .i64 G.now) := by rw [hB10.cell 2]; simp [gaC]
                 have t10 := loadK_trS (pushKeep H99.out HB9.out hF10))
              | fail)
          have HJ := Lib.hid (And.intro hB10 (And.intro hD10 (And.intro hF10 hbl10)))
          clear hB10 hD10 hF10 hbl10 c102 t10 c92 t9
          go_wp2_with fail
          go_ret2
          obtain ⟨hB10, hD10, hF10, hbl10⟩ := HJ.out
          unfold AddP
          rw [HAD.out]
          obtain ⟨hh1, hh2⟩ := hPush_ok dLt_ok ((s.tr, G.now) : Due) H99.out.hp
          have hpl := hh2.length_eq
          rw [List.length_append, List.length_singleton] at hpl
          have hG10 := H99.out.turns (K' := fun b => K9 b ∨ v10.ownBlock = some b) hF10 hB10 hD10 (by rw [hpl]; exact hh1) (fun y hy => by
            refine hh2.mem_iff.2 (List.mem_append.2 ?_)
            rcases (mem_putIn (x := ⟨s.tr, xl ++ [s], G.now⟩) HSA.out y).1 hy with rfl | ⟨hy1, hy2⟩
            · exact .inr (List.mem_singleton.2 rfl)
            · exact .inl (H99.out.hin y hy (by
                rw [HX9.out.1]
                intro e
                injection e with e
                exact hy2 e.symm))) (fun _ e => .inl e) (fun g e => .inr e) (fun b hb hz => by
            rcases hb with hb | hb
            · exact HG9.out.kz b hb hz
            · rcases hbl10 with e | ⟨q, e, hq⟩
              · exact HG9.out.kz b (HG9.out.kT b (by rw [← e]; exact hb)) hz
              · rw [e] at hb
                cases hb
                have h1 := HG9.out.loZ b hz
                have h2 : w9.heap.size ≤ b := hq
                omega) (fun b hb => by
            rcases hb with hb | hb
            · exact ⟨(HG9.out.lo b hb).1, Nat.lt_of_lt_of_le (HG9.out.lo b hb).2 hF10.size⟩
            · obtain ⟨cur, hc⟩ := own_bk hD10 hb
              refine ⟨?_, hc.lt⟩
              rcases hbl10 with e | ⟨q, e, hq⟩
              · exact (HG9.out.lo b (HG9.out.kT b (by rw [← e]; exact hb))).1
              · rw [e] at hb
                cases hb
                exact Nat.le_trans H99.out.baseLe hq)
          refine ⟨rfl, fun b => K9 b ∨ v10.ownBlock = some b, Z9, { m9 with tv := v10, dl := hPush dLt m9.dl (s.tr, G.now), ex := none }, fun b e => .inl (HK9.out.1 b e), fun b e => HK9.out.2.1 b e, fun b e => ?_, fun b e => HK9.out.2.2.2 b e, ?e1, ?e2, ?e3, ?e4, HF9.out.drew.drew.trans hF10 fun b hb e => (HK9.out.2.2.1 b (e.elim (fun e => e ▸ HG9.out.kF) (HG9.out.kT b))).resolve_right (by omega)⟩
          case e4 =>
            rw [← HX9.out.2.2.2]
            exact hG10
          case e1 => rfl
          case e2 =>
            show (hPush dLt m9.dl (s.tr, G.now)).length ≤ _
            rw [hpl, HX9.out.2.1]
            exact Nat.le_refl _
          case e3 =>
            show m9.ce.length ≤ _
            rw [HX9.out.2.2.1]
            omega
          · rcases e with e | e
            · exact HK9.out.2.2.1 b e
            · rcases hbl10 with e2 | ⟨q, e2, hq⟩
              · exact HK9.out.2.2.1 b (HG9.out.kT b (by rw [← e2]; exact e))
              · rw [e2] at e
                cases e
                exact .inr (Nat.le_trans HF9.out.size hq)
end
end Go.Proofs.YtoojpagpkbcfjaaGreat


/- Layer 20: Late, Now, Ever, Due, Next. -/
namespace Go.Proofs.YtoojpagpkbcfjaaGreat
open Go.RowKit
def storeKG (t : TypeId) (a : Addr) (v : Value) : Sem Unit := storeVar t a v
theorem storeKG_shut (a : Addr) (v : Value) : storeVar 47 a v = storeKG 47 a v := rfl
theorem loadGa_shut (a : Addr) : loadVar 47 a = loadK 47 a := rfl
attribute [local go_sem ↓] loadTr_shut storeKG_shut loadGa_shut storeKD_shut
section
variable {base F : Nat} {w w' : World} {K K' Z Z' : Nat → Prop} {G : GSt} {m : GMem}
theorem ClQ.cut {v : Value} {x : ClE} {xs : List ClE} (h : ClQ w base v (x :: xs)) : ∃ g off cap, v = .slice (some ⟨g, off, none⟩) (xs.length + 1) cap ∧ xs.length + 1 ≤ cap ∧ (∀ j u, (clC x)[j]? = some u → w.cell? ⟨g, off + j, none⟩ = some u) ∧
    ClQ w base (.slice (cutA (some ⟨g, off, none⟩) cap 1 3) (xs.length + 1 - 1) (cap - 1)) xs ∧ (Value.slice (cutA (some ⟨g, off, none⟩) cap 1 3) (xs.length + 1 - 1) (cap - 1)).ownBlock = v.ownBlock := by
  rcases h with ⟨-, h2⟩ | ⟨g, off, cap, cur, rfl, h2, h3, h4, h5, h6⟩
  · cases h2
  · rw [List.length_cons] at h4
    refine ⟨g, off, cap, by rw [List.length_cons], h4, fun j u hj => ?_, ?_, ?_⟩
    · rw [h3.cell]
      refine h6 j u ?_
      rw [flatR_cons, List.getElem?_append_left (List.getElem?_eq_some_iff.1 hj).1]
      exact hj
    · unfold cutA
      by_cases hc : cap = 1
      · rw [if_pos hc]
        obtain rfl : xs = [] := List.eq_nil_of_length_eq_zero (by omega)
        exact .inr ⟨g, off, cap - 1, cur, rfl, h2, h3, by omega, by omega, fun j u hj => by simp [flatR] at hj⟩
      · rw [if_neg hc]
        refine .inr ⟨g, off + 3, cap - 1, cur, by rw [Nat.add_sub_cancel]; rfl, h2, h3, by omega, by omega, fun j u hj => ?_⟩
        have := h6 (3 + j) u (by
          rw [flatR_cons, List.getElem?_append_right (by rw [clC_length]; omega), clC_length, Nat.add_sub_cancel_left]
          exact hj)
        rw [← this]
        congr 1
        omega
    · unfold cutA
      split <;> rfl
theorem Gf.cutCl (h : Gf base w K Z F G m) {v' : Value} {ce' : List ClE} {cl' : List (Tr × List Sp)} (hf : FrK w w' (Kis F)) (hB : Bk w' F 69 ((gaC G m).setIfInBounds 6 v')) (hQ : ClQ w' base v' ce') (hsub : ∀ e ∈ ce', e ∈ m.ce) (hcl : clsOf ce' = cl') (ho : v'.ownBlock = m.cv.ownBlock) :
    Gf base w' K Z F { G with cl := cl' } { m with cv := v', ce := ce' } := by
  have hbk : ∀ {b : Nat} {t : TypeId} {cs : Array Value}, Bk w b t cs → t ≠ 69 → w'.heap[b]? = w.heap[b]? := fun {b t cs} hb h1 => hf.block b hb.lt fun e => ne_of_type hb h.blk h1 e
  have hmp : ∀ {κ ν : Type} {kv : κ → Value} {vv : ν → Value} {b : Nat} {L : List (κ × ν)}, Mh kv vv w b L → Mh kv vv w' b L := fun {κ ν kv vv b L} hM => hM.of (hf.block b hM.lt fun e => hM.neBk h.blk (show F = b from e.symm))
  have hzz : ∀ b, Z b → w'.heap[b]? = w.heap[b]? := fun b hb => hf.block b (h.loZ b hb) fun e => h.kz F h.kF ((show b = F from e) ▸ hb)
  exact { blk := by
            have e1 : gaC { G with cl := cl' } { m with cv := v', ce := ce' } = (gaC G m).setIfInBounds 6 v' := by simp [gaC]
            rw [e1]
            exact hB
          opn := hmp h.opn
          opnP := h.opnP
          xfl := fun x hx => (hbk (h.xfl x hx) (by decide)).trans (h.xfl x hx)
          xro := fun x hx => own_of (h.xro x hx) fun g e => by
            obtain ⟨cur, hcur⟩ := own_bk (h.xro x hx) e
            exact hbk hcur (by decide)
          xsp := h.xsp
          xel := fun x hx e he => (h.xel x hx e he).keep hzz hf.size fun _ e => e
          xinj := h.xinj
          rinj := h.rinj
          evr := hmp h.evr
          evrM := h.evrM
          tur := own_of h.tur fun g e => by
            obtain ⟨cur, hcur⟩ := own_bk h.tur e
            exact hbk hcur (by decide)
          hp := h.hp
          hin := h.hin
          cls := hQ
          clsE := hcl
          clz := fun x hx => (h.clz x (hsub x hx)).keep hzz hf.size fun _ e => e
          neE := h.neE
          kF := h.kF
          kO := h.kO
          kE := h.kE
          kT := h.kT
          kC := fun g e => h.kC g (by rw [← ho]; exact e)
          kX := h.kX
          kR := h.kR
          kz := h.kz
          lo := fun b e => ⟨(h.lo b e).1, Nat.lt_of_lt_of_le (h.lo b e).2 hf.size⟩
          loZ := fun b e => Nat.lt_of_lt_of_le (h.loZ b e) hf.size }
set_option maxRecDepth 100000 in
theorem gaBox {W : World} (c : ClE) {r : Nat} {cs : Array Value} (hB : Bk W r 47 cs) (hcs : cs.size = 3) : ∃ W2, (storeKG 47 ⟨r, 0, none⟩ (clV c)).run Tryz.prog W = .ok () W2 ∧ Bk W2 r 47 (clC c).toArray ∧ FrK W W2 (Kis r) := by
  have hst := run_storeVar_row (P := Tryz.prog) W r 0 47 47 (clC c).toArray cs hB (by simp [clC]; omega) (fun u hu => clC_one c u (by simpa using hu)) (by rfl)
  have h2 := setRow_heap W r cs (cs.toList.take 0 ++ (clC c).toArray.toList ++ cs.toList.drop (0 + (clC c).toArray.size)).toArray _ _ hB
  have e : (cs.toList.take 0 ++ (clC c).toArray.toList ++ cs.toList.drop (0 + (clC c).toArray.size)).toArray = (clC c).toArray := by
    have h3 : cs.toList.drop (0 + (clC c).toArray.size) = [] := List.drop_eq_nil_of_le (by simp [clC]; omega)
    rw [h3]
    simp
  rw [e] at h2 hst
  exact ⟨_, hst, h2, FrK.of_grown (only_row r _) fun b _ e => (Option.some.inj e).symm⟩
set_option maxRecDepth 100000 in
theorem loadK_gaC {g off : Nat} {c : ClE} (h : ∀ j u, (clC c)[j]? = some u → w.cell? ⟨g, off + j, none⟩ = some u) : (loadK 47 ⟨g, off, none⟩).run Tryz.prog w = .ok (clV c) w :=
  run_loadVar_cells w _ _ ⟨g, off, none⟩ (clC c) Tryz.underlying47 rfl (by rfl) (fun j v hv => by rw [Addr.add_lit]; exact h j v hv)
set_option maxRecDepth 100000 in
theorem loadK_gaB {g : Nat} {c : ClE} (h : Bk w g 47 (clC c).toArray) : (loadK 47 ⟨g, 0, none⟩).run Tryz.prog w = .ok (clV c) w :=
  loadK_gaC fun j u hj => by
    rw [Nat.zero_add, h.cell j]
    simpa using hj
set_option maxRecDepth 100000 in
theorem run_slG (w : World) (a : Option Addr) (n c : Nat) (h1 : 1 ≤ n) : (Instr.slice 67 (.slice a n c) (some (.int .i64 1)) none none).run Tryz.prog w = .ok (.slice (cutA a c 1 3) (n - 1) (c - 1)) w := by
  have h := run_slice_l (P := Tryz.prog) w 67 a n c Tryz.underlying67 .i64 1 (by omega) (by omega)
  rw [h]
  have hs : (sizeOf (Tryz.prog.elem 67)).run Tryz.prog w = .ok 3 w := by kernel_rfl
  rw [hs]
  simp [Result.andThen, sliced, cutA]
set_option maxRecDepth 100000 in
theorem gaLate (h : Gf base w K Z F G m) : Calls Tryz.prog 25 #[ptV F] w fun e w' => e = .returned (.int .i64 (G.late : Nat)) ∧ Below w.heap.size w w' := by
  have CN := Lib.hid (gaNone h)
  have c7 : w.cell? ⟨F, 7, none⟩ = some (.int .i64 (G.late : Nat)) := (h.blk.cell 7).trans rfl
  clear h
  go_enter Tryz.func25, Tryz.ntmps25
  go_wp2_with fail
  refine CN.out.mono ?_
  rintro e w2 ⟨rfl, rfl⟩
  go_wp2_with fail
  go_ret
  exact ⟨rfl, Below.refl _ _⟩
set_option maxRecDepth 100000 in
theorem gaNow (h : Gf base w K Z F G m) : Calls Tryz.prog 27 #[ptV F] w fun e w' => e = .returned (.int .i64 G.now) ∧ Below w.heap.size w w' := by
  have CN := Lib.hid (gaNone h)
  have c2 : w.cell? ⟨F, 2, none⟩ = some (.int .i64 G.now) := (h.blk.cell 2).trans rfl
  clear h
  go_enter Tryz.func27, Tryz.ntmps27
  go_wp2_with fail
  refine CN.out.mono ?_
  rintro e w2 ⟨rfl, rfl⟩
  go_wp2_with fail
  go_ret
  exact ⟨rfl, Below.refl _ _⟩
/-- What Due comes to. -/
def DueP (base N : Nat) (w : World) (K Z : Nat → Prop) (F : Nat) (G : GSt) (e : Ending) (w' : World) : Prop :=
  e = .returned (.int .i64 G.due) ∧ (∃ m', m'.ex = none ∧ m'.dl.length ≤ N ∧ Gf base w' K Z F G m') ∧ FrK w w' K
set_option maxRecDepth 100000 in
set_option maxHeartbeats 2000000 in
theorem gaDue {N : Nat} (h : Gf base w K Z F G m) (hex : m.ex = none) (hdl : m.dl.length ≤ N) (hN : N ≤ 1000000000) (hw : 0 ≤ G.win ∧ G.win ≤ 1152921504606846976) (hnw : 0 ≤ G.now ∧ G.now ≤ 1152921504606846976) (hti : ∀ x ∈ G.op, 0 ≤ x.time ∧ x.time ≤ G.now) :
    Calls Tryz.prog 29 #[ptV F] w (DueP base N w K Z F G) := by
  have CN := Lib.hid (gaNone h)
  have CF := Lib.hid (gaFirst h hex hdl hN)
  have HK := Lib.hid (And.intro (fun b hb => (h.lo b hb).2) h.loZ)
  clear h
  go_enter Tryz.func29, Tryz.ntmps29
  go_wp2_with fail
  refine CN.out.mono ?_
  rintro e w2 ⟨rfl, rfl⟩
  go_wp2_with fail
  refine CF.out.mono ?_
  rintro e w3 ⟨he, ⟨m', hex', hml, hG'⟩, hf'⟩
  have hd : G.due = match GSt.first G.op with | none => 0 | some x => x.time + G.win - G.now := rfl
  cases hfi : GSt.first G.op with
  | none =>
    rw [hfi] at he hd
    simp only at he hd
    obtain rfl := he
    obtain ⟨w4, s4, k4, f4⟩ := duBox (⟨⟨0, 0⟩, 0⟩ : Due) (Bk.new w3 74 zDue) rfl
    have s4' : (storeKD 74 ⟨w3.heap.size, 0, none⟩ (.agg #[.int .u64 0, .int .u64 0, .int .i64 0])).run Tryz.prog (w3.alloc (.cells #[.int .u64 0, .int .u64 0, .int .i64 0] 74)) = .ok () w4 := s4
    have hz : ∀ b, (K b ∨ Z b) → b ≠ w3.heap.size := fun b hb => by
      have h1 := hf'.size
      rcases hb with hb | hb
      · have := HK.out.1 b hb; omega
      · have := HK.out.2 b hb; omega
    have HG4 := Lib.hid ((hG'.below ((Below.refl _ w3).alloc (Nat.le_refl _) (.cells zDue 74))).keep f4 (fun b hb e => hz b (.inl hb) e) (fun b hb e => hz b (.inr hb) e))
    have hsz := hf'.size
    have HF4 := Lib.hid ((hf'.alloc (.cells zDue 74)).trans f4 fun b hb e => absurd (show b = w3.heap.size from e) (by omega))
    have HD := Lib.hid hd
    clear s4 k4 f4 hG' hf' hd hfi hz hsz CF CN
    go_wp2_with fail
    go_ret
    refine ⟨by rw [HD.out]; rfl, ⟨m', hex', hml, HG4.out⟩, HF4.out⟩
  | some x =>
    rw [hfi] at he hd
    simp only at he hd
    obtain rfl := he
    obtain ⟨w4, s4, k4, f4⟩ := duBox x.due (Bk.new w3 74 zDue) rfl
    have hz : ∀ b, (K b ∨ Z b) → b ≠ w3.heap.size := fun b hb => by
      have h1 := hf'.size
      rcases hb with hb | hb
      · have := HK.out.1 b hb; omega
      · have := HK.out.2 b hb; omega
    have hG4 := ((hG'.below ((Below.refl _ w3).alloc (Nat.le_refl _) (.cells zDue 74))).keep f4 (fun b hb e => hz b (.inl hb) e) (fun b hb e => hz b (.inr hb) e))
    have hsz := hf'.size
    have HF4 := Lib.hid ((hf'.alloc (.cells zDue 74)).trans f4 fun b hb e => absurd (show b = w3.heap.size from e) (by omega))
    have HD := Lib.hid hd
    obtain ⟨hx0, hx1⟩ := hti x (first_some hfi).1
    have c40 : w4.drew.cell? ⟨F, 0, none⟩ = some (.int .i64 G.win) := (hG4.blk.cell 0).trans rfl
    have c42 : w4.drew.cell? ⟨F, 2, none⟩ = some (.int .i64 G.now) := (hG4.blk.cell 2).trans rfl
    have k42 : w4.drew.cell? ⟨w3.heap.size, 2, none⟩ = some (.int .i64 x.time) := (k4.cell 2).trans rfl
    have hw1 : IntKind.i64.wrap (x.time + G.win) = x.time + G.win := by simp [IntKind.wrap, IntKind.bits, IntKind.signed]; omega
    have hw2 : IntKind.i64.wrap (x.time + G.win - G.now) = x.time + G.win - G.now := by simp [IntKind.wrap, IntKind.bits, IntKind.signed]; omega
    have HG4 := Lib.hid hG4
    clear k4 f4 hG' hf' hd hfi hz hsz CF CN hG4
    go_wp2_with fail
    go_region_held3 (fun w' => w'.cell? ⟨F, 0, none⟩ = some (.int .i64 G.win) ∧ w'.cell? ⟨F, 2, none⟩ = some (.int .i64 G.now) ∧ w'.cell? ⟨w3.heap.size, 2, none⟩ = some (.int .i64 x.time)) (exact ⟨c40, c42, k42⟩) (fail)
    clear c40 c42 k42
    go_wp2_with fail
    go_ret
    refine ⟨by rw [HD.out]; rfl, ⟨m', hex', hml, HG4.out.below (Below.refl _ w4).drew⟩, HF4.out.drew⟩
set_option maxRecDepth 100000 in
theorem gaEver (h : Gf base w K Z F G m) (t : Tr) : Calls Tryz.prog 23 #[ptV F, trV t] w fun e w' => e = .returned (.bool (decide (t ∈ G.all))) ∧ Below w.heap.size w w' := by
  have hb1 : Below w.heap.size w (w.alloc (.cells (trC t) 37)) := (Below.refl _ w).alloc (Nat.le_refl _) _
  have h1 := h.below hb1
  have b1 := Bk.new w 37 (trC t)
  obtain ⟨w1, e1⟩ : ∃ w1, w.alloc (.cells (trC t) 37) = w1 := ⟨_, rfl⟩
  rw [e1] at h1 b1 hb1
  have h2 := h1.below (Below.refl _ w1).drew
  have CN := Lib.hid (gaNone h2)
  have c5 : w1.drew.cell? ⟨F, 5, none⟩ = some (.map (some m.eb)) := (h2.blk.cell 5).trans rfl
  have l5 := h2.lookE t
  have t5 := loadK_trB (w := w1.drew) b1
  have HB := Lib.hid hb1
  clear h h1 h2 b1 hb1
  go_enter Tryz.func23, Tryz.ntmps23
  go_wp2_with fail
  go_region_held3 (fun w' => w'.cell? ⟨F, 5, none⟩ = some (.map (some m.eb)) ∧ (loadK 37 ⟨w.heap.size, 0, none⟩).run Tryz.prog w' = .ok (trV t) w' ∧ (Instr.lookup 64 (.map (some m.eb)) (trV t) false).run Tryz.prog w' = .ok (.bool (decide (t ∈ G.all))) w') (exact ⟨c5, t5, l5⟩)
    (first
      | (go_at_call 34
         refine CN.out.mono ?_
         rintro e w2 ⟨rfl, rfl⟩)
      | fail)
  go_wp2_with fail
  go_ret
  exact ⟨rfl, HB.out.drew⟩
/-- What Next comes to. -/
def NextP (base : Nat) (w : World) (K Z : Nat → Prop) (F : Nat) (G : GSt) (m : GMem) (e : Ending) (w' : World) : Prop :=
  (match m.ce with
    | [] => e = .returned (.tuple #[.agg #[.int .u64 0, .int .u64 0, .slice none 0 0], .int .i64 6]) ∧ Gf base w' K Z F G m
    | c :: ce => e = .returned (.tuple #[clV c, .int .i64 0]) ∧ ClZ w' Z c ∧ ∃ cv', Gf base w' K Z F { G with cl := G.cl.tail } { m with cv := cv', ce := ce }) ∧ FrK w w' K
set_option maxRecDepth 100000 in
set_option maxHeartbeats 4000000 in
theorem gaNext (h : Gf base w K Z F G m) (hce : m.ce.length ≤ 1000000) : Calls Tryz.prog 13 #[ptV F] w (NextP base w K Z F G m) := by
  have h1 := h.below ((Below.refl _ w).alloc (Nat.le_refl _) (.cells #[.int .u64 0, .int .u64 0, .slice none 0 0] 47))
  have b1 := Bk.new w 47 #[.int .u64 0, .int .u64 0, .slice none 0 0]
  have f1 := (FrK.refl w K).alloc (.cells #[.int .u64 0, .int .u64 0, .slice none 0 0] 47)
  have hrr : ∀ b, (K b ∨ Z b) → b ≠ w.heap.size := fun b hb => by
    rcases hb with hb | hb
    · have := (h.lo b hb).2; omega
    · have := h.loZ b hb; omega
  obtain ⟨r, hr⟩ : ∃ r, w.heap.size = r := ⟨_, rfl⟩
  rw [hr] at b1 hrr
  obtain ⟨w1, e1⟩ : ∃ w1, w.alloc (.cells #[.int .u64 0, .int .u64 0, .slice none 0 0] 47) = w1 := ⟨_, rfl⟩
  rw [e1] at h1 b1 f1
  have hs1 : w1.heap.size = r + 1 := by rw [← e1, ← hr]; simp
  have CN := Lib.hid (gaNone h1)
  have H1 := Lib.hid h1
  have B1 := Lib.hid b1
  have F1 := Lib.hid f1
  have E1 := Lib.hid e1
  have HR := Lib.hid hr
  have HS1 := Lib.hid hs1
  have HRR := Lib.hid hrr
  clear h h1 b1 f1 e1 hr hs1 hrr
  cases hce' : m.ce with
  | nil =>
    have hv : m.cv = .slice none 0 0 ∨ ∃ A c, m.cv = .slice A 0 c := by
      rcases H1.out.cls with ⟨h2, -⟩ | ⟨g, off, cap, cur, h2, -⟩
      · exact .inl h2
      · rw [hce'] at h2
        exact .inr ⟨_, _, h2⟩
    obtain ⟨A, c, hv⟩ : ∃ A c, m.cv = .slice A 0 c := by
      rcases hv with hv | hv
      · exact ⟨_, _, hv⟩
      · exact hv
    have c6 : w1.cell? ⟨F, 6, none⟩ = some (.slice A 0 c) := by rw [H1.out.blk.cell 6, ← hv]; rfl
    obtain ⟨w4, s4, k4, f4⟩ := gaBox (⟨⟨0, 0⟩, [], none, 0⟩ : ClE) B1.out rfl
    have s4' : (storeKG 47 ⟨r, 0, none⟩ (.agg #[.int .u64 0, .int .u64 0, .slice none 0 0])).run Tryz.prog w1 = .ok () w4 := s4
    have HG4 := Lib.hid (H1.out.keep f4 (fun b hb e => HRR.out b (.inl hb) e) (fun b hb e => HRR.out b (.inr hb) e))
    have HF4 := Lib.hid (F1.out.trans f4 fun b hb e => absurd (show b = r from e) (by have := HR.out; omega))
    have HC := Lib.hid hce'
    have HK4 := Lib.hid k4
    clear s4 k4 f4 hv hce'
    go_enter Tryz.func13, Tryz.ntmps13
    go_wp2_with fail
    rw [E1.out]
    refine CN.out.mono ?_
    rintro e w2 ⟨rfl, rfl⟩
    rw [HR.out]
    go_wp2_with fail
    refine bodyPost_ret (resCellTmp rfl _ _ r 47 (clC (⟨⟨0, 0⟩, [], none, 0⟩ : ClE)).toArray _ rfl HK4.out Tryz.underlying47 rfl (by rfl)) rfl ?_
    unfold NextP
    rw [HC.out]
    exact ⟨⟨rfl, HG4.out⟩, HF4.out⟩
  | cons c ce =>
    have hq := H1.out.cls
    rw [hce'] at hq hce
    obtain ⟨g, off, cap, hv, hcap, hcells, hcut, hown⟩ := ClQ.cut hq
    obtain ⟨n, hn⟩ : ∃ n, ce.length = n := ⟨_, rfl⟩
    rw [List.length_cons, hn] at hce
    rw [hn] at hv hcap hcut hown
    have c6 : w1.cell? ⟨F, 6, none⟩ = some (.slice (some ⟨g, off, none⟩) (n + 1) cap) := by rw [H1.out.blk.cell 6, ← hv]; rfl
    have l1 := loadK_gaC hcells
    obtain ⟨w2, s2, k2, f2⟩ := gaBox c (Bk.new w1 47 #[.int .u64 0, .int .u64 0, .slice none 0 0]) rfl
    obtain ⟨r1, hr1⟩ : ∃ r1, w1.heap.size = r1 := ⟨_, rfl⟩
    have hrr1 : ∀ b, b < w1.heap.size → b ≠ r1 := fun b hb => by omega
    rw [hr1] at s2 k2 f2
    have s2' : (storeKG 47 ⟨w1.heap.size, 0, none⟩ (clV c)).run Tryz.prog (w1.alloc (.cells #[.int .u64 0, .int .u64 0, .slice none 0 0] 47)) = .ok () w2 := by
      rw [hr1]
      exact s2
    have h2 := (H1.out.below ((Below.refl _ w1).alloc (Nat.le_refl _) (.cells #[.int .u64 0, .int .u64 0, .slice none 0 0] 47))).keep f2 (fun b hb e => hrr1 b (H1.out.lo b hb).2 e) (fun b hb e => hrr1 b (H1.out.loZ b hb) e)
    have F2 := ((FrK.refl w1 K).alloc (.cells #[.int .u64 0, .int .u64 0, .slice none 0 0] 47)).trans f2 fun b hb e => absurd (show b = r1 from e) (by omega)
    have B2 : Bk w2 r 47 #[.int .u64 0, .int .u64 0, .slice none 0 0] := F2.bk B1.out fun e => HRR.out r (.inl e) rfl
    have c62 : w2.cell? ⟨F, 6, none⟩ = some (.slice (some ⟨g, off, none⟩) (n + 1) cap) := by rw [h2.blk.cell 6, ← hv]; rfl
    have f62 := h2.blk.frozen 6
    have hsl := run_slG w2 (some ⟨g, off, none⟩) (n + 1) cap (by omega)
    obtain ⟨A3, c3, hA3⟩ : ∃ A3 c3, cutA (some ⟨g, off, none⟩) cap 1 3 = A3 ∧ cap - 1 = c3 := ⟨_, _, rfl, rfl⟩
    rw [hA3.1, hA3.2, Nat.add_sub_cancel] at hsl hcut hown
    have hB3 := h2.blk.set 6 (.slice A3 n c3)
    have f3 := FrK.set w2 F 6 (.slice A3 n c3)
    have hq3 : ClQ (w2.setCell ⟨F, 6, none⟩ (.slice A3 n c3)) base (.slice A3 n c3) ce := hcut.keep fun g' e => by
      have e2 := e
      rw [hown] at e2
      obtain ⟨cur, hcur⟩ := ClQ.blk H1.out.cls e2
      have h4 : Bk (w1.alloc (.cells #[.int .u64 0, .int .u64 0, .slice none 0 0] 47)) g' 47 cur := ((FrK.refl w1 Kno).alloc _).bk hcur (fun hk => hk)
      have h5 := f2.bk h4 (hrr1 g' hcur.lt)
      exact (f3.bk h5 (ne_of_type h5 h2.blk (by decide))).trans hcur.symm
    have HG3 := h2.cutCl (f3.mono fun b _ e => e) hB3 hq3 (fun e he => by rw [hce']; exact List.mem_cons_of_mem _ he) rfl (hown.trans (by rw [hv]))
    have k3 : Bk (w2.setCell ⟨F, 6, none⟩ (.slice A3 n c3)) r1 47 (clC c).toArray := f3.bk k2 (ne_of_type k2 h2.blk (by decide))
    have B3 : Bk (w2.setCell ⟨F, 6, none⟩ (.slice A3 n c3)) r 47 #[.int .u64 0, .int .u64 0, .slice none 0 0] := f3.bk B2 (ne_of_type B2 h2.blk (by decide))
    have l3 := loadK_gaB k3
    obtain ⟨w5, s5, k5, f5⟩ := gaBox c B3 rfl
    have HK5 := Lib.hid k5
    have HG5 := Lib.hid (HG3.keep f5 (fun b hb e => HRR.out b (.inl hb) e) (fun b hb e => HRR.out b (.inr hb) e))
    have HF5 := Lib.hid (((F1.out.trans F2 fun _ _ e => e).trans (f3.mono fun b _ e => (show b = F from e) ▸ H1.out.kF) fun _ _ e => e).trans f5 fun b hb e => absurd (show b = r from e) (by have := HR.out; omega))
    have F15 : FrK w1 w5 (fun b => K b ∨ b = r) := ((F2.trans (f3.mono fun b _ e => (show b = F from e) ▸ H1.out.kF) fun _ _ e => e).mono fun _ _ e => Or.inl e).trans f5 fun b _ e => .inr e
    have HZ5 := Lib.hid ((H1.out.clz c (by rw [hce']; exact List.mem_cons_self ..)).keep (Z' := Z) (w' := w5) (fun b hb => F15.block b (H1.out.loZ b hb) fun e => e.elim (fun e => H1.out.kz b e hb) (fun e => HRR.out b (.inr hb) e)) F15.size fun _ e => e)
    have HC := Lib.hid hce'
    have HT := Lib.hid (And.intro H1.out.clsE hn)
    clear F15 k5 HG3 f5 k3 B3 f3 hq3 hB3 F2 h2 f2 k2 B2 hown hcut hq hcells hv hce' hrr1 hcap
    go_enter Tryz.func13, Tryz.ntmps13
    go_wp2_with fail
    rw [E1.out]
    refine CN.out.mono ?_
    rintro e w2 ⟨rfl, rfl⟩
    rw [HR.out]
    go_wp2_with fail
    refine bodyPost_ret (resCellTmp rfl _ _ r 47 (clC c).toArray _ rfl HK5.out Tryz.underlying47 rfl (by rfl)) rfl ?_
    unfold NextP
    rw [HC.out]
    refine ⟨⟨rfl, HZ5.out, .slice A3 n c3, ?_⟩, HF5.out⟩
    have e1 : G.cl.tail = clsOf ce := by rw [← HT.out.1, HC.out]; rfl
    rw [e1]
    exact HG5.out
end
end Go.Proofs.YtoojpagpkbcfjaaGreat


/- Layer 20: Tick. -/
namespace Go.Proofs.YtoojpagpkbcfjaaGreat
open Go.RowKit
attribute [local go_sem ↓] storeKD_shut loadTr_shut
section
variable {base F : Nat} {w w' : World} {K K' Z Z' : Nat → Prop} {G : GSt} {m : GMem}
theorem delOf_lt {x : Opn} {l : List Opn} (h : x ∈ l) : (GSt.delOf x.t l).length < l.length :=
  List.length_filter_lt_length_iff_exists.2 ⟨x, h, by simp⟩
theorem close_cl (G : GSt) (t : Tr) (l : List Sp) : (G.close t l).cl = G.cl ++ [(t, ordS l)] := rfl
theorem close_op (G : GSt) (t : Tr) (l : List Sp) : (G.close t l).op = GSt.delOf t G.op := rfl
/-- How many closed traces wait. -/
def clN (w : World) (F : Nat) : Nat := match w.cell? ⟨F, 6, none⟩ with | some (.slice _ n _) => n | _ => 0
theorem Gf.clN (h : Gf base w K Z F G m) : clN w F = G.cl.length := by
  have hl : m.ce.length = G.cl.length := by rw [← h.clsE]; simp [clsOf]
  have h6 : w.cell? ⟨F, 6, none⟩ = some m.cv := h.blk.cell 6
  unfold Proofs.YtoojpagpkbcfjaaGreat.clN
  rw [h6]
  rcases h.cls with ⟨h1, h2⟩ | ⟨g, off, cap, cur, h1, -⟩
  · rw [h1, ← hl, h2]
    rfl
  · rw [h1]
    exact hl
/-- What Tick comes to. -/
def TickP (base N : Nat) (w : World) (K Z : Nat → Prop) (F : Nat) (G : GSt) (n : Int) (e : Ending) (w' : World) : Prop :=
  e = .returned (.int .i64 ((G.tick n).2 : Nat)) ∧ ∃ K' Z' m', (∀ b, K b → K' b) ∧ (∀ b, Z b → Z' b) ∧ (∀ b, K' b → K b ∨ w.heap.size ≤ b) ∧ (∀ b, Z' b → Z b ∨ w.heap.size ≤ b) ∧ m'.ex = none ∧ m'.dl.length ≤ N ∧ Gf base w' K' Z' F (G.tick n).1 m' ∧ FrK w w' K
/-- Ahead of a turn of Tick's loop. -/
def TickR (base N : Nat) (w : World) (K Z : Nat → Prop) (F : Nat) (G T : GSt) (B : Nat) (wx : World) : Prop :=
  ∃ (f : Nat) (G' : GSt) (K' Z' : Nat → Prop) (m' : GMem), GSt.closeDue f G' = T ∧ G'.op.length ≤ f ∧ G'.win = G.win ∧ G'.now = G.now ∧ (∀ x ∈ G'.op, x ∈ G.op) ∧ G'.cl.length + G'.op.length ≤ B ∧
    (∀ b, K b → K' b) ∧ (∀ b, Z b → Z' b) ∧ (∀ b, K' b → K b ∨ w.heap.size ≤ b) ∧ (∀ b, Z' b → Z b ∨ w.heap.size ≤ b) ∧ m'.ex = none ∧ m'.dl.length ≤ N ∧ Gf base wx K' Z' F G' m' ∧ FrK w wx K
set_option maxRecDepth 100000 in
set_option maxHeartbeats 4000000 in
theorem gaTick {N : Nat} {n : Int} (h : Gf base w K Z F G m) (hex : m.ex = none) (hdl : m.dl.length ≤ N) (hN : N ≤ 1000000000) (hw : 0 ≤ G.win ∧ G.win ≤ 1152921504606846976) (hnw : 0 ≤ G.now ∧ G.now ≤ 1152921504606846976)
    (hop : ∀ x ∈ G.op, x.l.length ≤ 1000000 ∧ (∀ s ∈ x.l, s.tags.length ≤ 1000000) ∧ 0 ≤ x.time ∧ x.time ≤ G.now) (hcl : G.cl.length + G.op.length ≤ 1000000) (hn : -9223372036854775808 ≤ n ∧ n ≤ 9223372036854775807) :
    Calls Tryz.prog 11 #[ptV F, .int .i64 n] w (TickP base N w K Z F G n) := by
  have CN := Lib.hid (gaNone h)
  have c2 : w.cell? ⟨F, 2, none⟩ = some (.int .i64 G.now) := (h.blk.cell 2).trans rfl
  have g2 := h.blk.frozen 2
  have hw1 : IntKind.i64.wrap (1152921504606846976 - G.now) = 1152921504606846976 - G.now := by simp [IntKind.wrap, IntKind.bits, IntKind.signed]; omega
  by_cases hbad : n < 0 ∨ 1152921504606846976 - G.now < n
  · have ht : G.tick n = (G, 2) := if_pos hbad
    have HT := Lib.hid ht
    have H := Lib.hid h
    clear ht h hw hnw hop hcl
    by_cases h1 : n < 0
    · clear hbad
      go_enter Tryz.func11, Tryz.ntmps11
      go_wp2_with fail
      refine CN.out.mono ?_
      rintro e w2 ⟨rfl, rfl⟩
      go_wp2_with fail
      go_ret
      unfold TickP
      rw [HT.out]
      exact ⟨rfl, K, Z, m, fun _ e => e, fun _ e => e, fun _ e => .inl e, fun _ e => .inl e, hex, hdl, H.out, FrK.refl _ _⟩
    · have h2 : 1152921504606846976 - G.now < n := by omega
      clear hbad
      go_enter Tryz.func11, Tryz.ntmps11
      go_wp2_with fail
      refine CN.out.mono ?_
      rintro e w2 ⟨rfl, rfl⟩
      go_wp2_with fail
      go_ret
      unfold TickP
      rw [HT.out]
      exact ⟨rfl, K, Z, m, fun _ e => e, fun _ e => e, fun _ e => .inl e, fun _ e => .inl e, hex, hdl, H.out, FrK.refl _ _⟩
  · have ht : G.tick n = (GSt.closeDue G.op.length { G with now := G.now + n }, 0) := if_neg hbad
    have h1 : ¬n < 0 := fun e => hbad (.inl e)
    have h2 : ¬1152921504606846976 - G.now < n := fun e => hbad (.inr e)
    have hw2 : IntKind.i64.wrap (G.now + n) = G.now + n := by simp [IntKind.wrap, IntKind.bits, IntKind.signed]; omega
    have hs := h.stored (G' := { G with now := G.now + n }) 2 (.int .i64 (G.now + n)) (by simp [gaC]) rfl rfl rfl
    have hf := (FrK.set w F 2 (.int .i64 (G.now + n))).mono (K' := K) fun b _ e => (show b = F from e) ▸ h.kF
    have HR0 : Hid (TickR base N w K Z F { G with now := G.now + n } (GSt.closeDue G.op.length { G with now := G.now + n }) (G.cl.length + G.op.length) (w.setCell ⟨F, 2, none⟩ (.int .i64 (G.now + n)))) := Lib.hid ⟨_, _, K, Z, m, rfl, Nat.le_refl _, rfl, rfl, fun _ e => e, Nat.le_refl _, fun _ e => e, fun _ e => e, fun _ e => .inl e, fun _ e => .inl e, hex, hdl, hs, hf⟩
    have HT := Lib.hid ht
    have HW := Lib.hid (And.intro hw (And.intro hnw (And.intro hop (And.intro hcl (And.intro h1 (And.intro h2 h.kF))))))
    clear h ht hw hnw hop hcl hs hf hbad
    go_enter Tryz.func11, Tryz.ntmps11
    go_wp2_with fail
    refine CN.out.mono ?_
    rintro e w2 ⟨rfl, rfl⟩
    go_wp2_with fail
    clear c2 g2 hw1 hw2 h1 h2
    go_loopw [5, 6] (fun _ _ wx => Hid (TickR base N w K Z F { G with now := G.now + n } (GSt.closeDue G.op.length { G with now := G.now + n }) (G.cl.length + G.op.length) wx)) (fun _ _ wx => G.cl.length + G.op.length - clN wx F)
    case atStart => exact HR0
    case round =>
      obtain ⟨f, G', K', Z', m', hT, hfu, hwin, hnow, hsub, hB, k1, z1, kn, zn, hex', hml, hG, hF⟩ := hrel.out
      clear hrel
      have CF := Lib.hid (gaFirst hG hex' hml hN)
      have hmeas := hG.clN
      have HM := Lib.hid hmeas
      have HK := Lib.hid (And.intro (fun b hb => (hG.lo b hb).2) hG.loZ)
      have HJ := Lib.hid (And.intro hT (And.intro hfu (And.intro hsub (And.intro hB (And.intro k1 (And.intro z1 (And.intro kn (And.intro zn hF))))))))
      clear hT hfu hsub hB k1 z1 kn zn hF hG hmeas hml hex'
      go_wp2_with fail
      refine CF.out.mono ?_
      rintro e w3 ⟨he, ⟨m2, hex2, hml2, hG2⟩, hf2⟩
      have hsz := hf2.size
      have hz : ∀ b, (K' b ∨ Z' b) → b ≠ w3.heap.size := fun b hb => by
        rcases hb with hb | hb
        · have := HK.out.1 b hb; omega
        · have := HK.out.2 b hb; omega
      cases hfi : GSt.first G'.op with
      | none =>
        rw [hfi] at he
        simp only at he
        obtain rfl := he
        obtain ⟨w4, s4, k4, f4⟩ := duBox (⟨⟨0, 0⟩, 0⟩ : Due) (Bk.new w3 74 zDue) rfl
        have s4' : (storeKD 74 ⟨w3.heap.size, 0, none⟩ (.agg #[.int .u64 0, .int .u64 0, .int .i64 0])).run Tryz.prog (w3.alloc (.cells #[.int .u64 0, .int .u64 0, .int .i64 0] 74)) = .ok () w4 := s4
        have HG4 := Lib.hid ((hG2.below ((Below.refl _ w3).alloc (Nat.le_refl _) (.cells zDue 74))).keep f4 (fun b hb e => hz b (.inl hb) e) (fun b hb e => hz b (.inr hb) e))
        have HF4 := Lib.hid ((hf2.alloc (.cells zDue 74)).trans f4 fun b hb e => absurd (show b = w3.heap.size from e) (by omega))
        have hTT : GSt.closeDue f G' = G' := by
          cases f with
          | zero => rfl
          | succ f => simp only [GSt.closeDue, hfi]
        have HTT := Lib.hid hTT
        clear s4 k4 f4 hG2 hf2 hfi hz hsz CF hTT CN
        go_wp2_with fail
        go_region
        go_wp2_with fail
        go_ret
        obtain ⟨hT, hfu, hsub, hB, k1, z1, kn, zn, hF⟩ := HJ.out
        unfold TickP
        rw [HT.out, ← hT, HTT.out]
        exact ⟨rfl, K', Z', m2, k1, z1, kn, zn, hex2, hml2, HG4.out.below (Below.refl _ w4).drew, (hF.trans HF4.out fun b hb e => (kn b e).elim id fun e => by omega).drew⟩
      | some x =>
        rw [hfi] at he
        simp only at he
        obtain rfl := he
        obtain ⟨w4, s4, k4, f4⟩ := duBox x.due (Bk.new w3 74 zDue) rfl
        have hG4 := ((hG2.below ((Below.refl _ w3).alloc (Nat.le_refl _) (.cells zDue 74))).keep f4 (fun b hb e => hz b (.inl hb) e) (fun b hb e => hz b (.inr hb) e)).below (Below.refl _ w4).drew
        have hF4 := ((hf2.alloc (.cells zDue 74)).trans f4 fun b hb e => absurd (show b = w3.heap.size from e) (by omega)).drew
        obtain ⟨hT, hfu, hsub, hB, k1, z1, kn, zn, hF⟩ := HJ.out
        have hx := (first_some hfi).1
        obtain ⟨hxl, hxt, hx0, hx1⟩ := HW.out.2.2.1 x (hsub x hx)
        have c40 : w4.drew.cell? ⟨F, 0, none⟩ = some (.int .i64 G.win) := (hG4.blk.cell 0).trans (by rw [show G.win = G'.win from hwin.symm]; rfl)
        have c42 : w4.drew.cell? ⟨F, 2, none⟩ = some (.int .i64 (G.now + n)) := (hG4.blk.cell 2).trans (by rw [show G.now + n = G'.now from hnow.symm]; rfl)
        have k42 : w4.drew.cell? ⟨w3.heap.size, 2, none⟩ = some (.int .i64 x.time) := (k4.cell 2).trans rfl
        have hw2 : IntKind.i64.wrap (G.now + n - x.time) = G.now + n - x.time := by
          have := HW.out
          simp [IntKind.wrap, IntKind.bits, IntKind.signed]
          omega
        by_cases hlt : G.now + n - x.time < G.win
        · have hTT : GSt.closeDue f G' = G' := by
            cases f with
            | zero => rfl
            | succ f =>
              simp only [GSt.closeDue, hfi]
              rw [if_neg (by rw [hwin, hnow]; show ¬G.win ≤ G.now + n - x.time; omega)]
          have HTT := Lib.hid hTT
          have HG4 := Lib.hid hG4
          have HF4 := Lib.hid hF4
          clear k4 f4 hG2 hf2 hfi hz hsz CF hTT CN hG4 hF4 hT hfu hsub hB k1 z1 kn zn hF
          go_wp2_with fail
          go_region_held3 (fun w' => w'.cell? ⟨F, 0, none⟩ = some (.int .i64 G.win) ∧ w'.cell? ⟨F, 2, none⟩ = some (.int .i64 (G.now + n)) ∧ w'.cell? ⟨w3.heap.size, 2, none⟩ = some (.int .i64 x.time)) (exact ⟨c40, c42, k42⟩) (fail)
          clear c40 c42 k42
          go_wp2_with fail
          go_ret
          obtain ⟨hT, hfu, hsub, hB, k1, z1, kn, zn, hF⟩ := HJ.out
          unfold TickP
          rw [HT.out, ← hT, HTT.out]
          exact ⟨rfl, K', Z', m2, k1, z1, kn, zn, hex2, hml2, HG4.out, hF.trans HF4.out fun b hb e => (kn b e).elim id fun e => by omega⟩
        · have hFx := hF.trans hF4 fun b hb e => (kn b e).elim id fun e => by omega
          have tq := loadK_tr0 (w := w4.drew) (g := w3.heap.size) (d := x.due) k4
          have hce2 : m2.ce.length = G'.cl.length := by rw [← hG4.clsE]; simp [clsOf]
          have CL := Lib.hid (gaClose hG4 hx (.inl hex2) (by have := HW.out.2.2.2.1; rw [hce2]; omega) hxl hxt)
          obtain ⟨f, rfl⟩ : ∃ f', f = f' + 1 := ⟨f - 1, by have := List.length_pos_of_mem hx; omega⟩
          have hTT : GSt.closeDue (f + 1) G' = GSt.closeDue f (G'.close x.t x.l) := by
            simp only [GSt.closeDue, hfi]
            rw [if_pos (by rw [hwin, hnow]; show G.win ≤ G.now + n - x.time; omega)]
          rw [hTT] at hT
          have hd := delOf_lt hx
          have HJ2 := Lib.hid (And.intro hT (And.intro hfu (And.intro hsub (And.intro hB (And.intro k1 (And.intro z1 (And.intro kn (And.intro zn (And.intro hFx (And.intro hd (And.intro hml2 (And.intro hwin hnow))))))))))))
          have HG4 := Lib.hid hG4
          clear k4 f4 hG2 hf2 hfi hz hsz CF hTT hG4 hF4 hT hfu hsub hB k1 z1 kn zn hF hFx HJ hce2 hd hxl hxt hml2
          go_wp2_with fail
          go_region_held3 (fun w' => w'.cell? ⟨F, 0, none⟩ = some (.int .i64 G.win) ∧ w'.cell? ⟨F, 2, none⟩ = some (.int .i64 (G.now + n)) ∧ w'.cell? ⟨w3.heap.size, 2, none⟩ = some (.int .i64 x.time)) (exact ⟨c40, c42, k42⟩) (fail)
          clear c40 c42 k42
          go_wp2_with fail
          refine CL.out.mono ?_
          rintro e w6 ⟨rfl, K6, Z6, m6, k6, z6, kn6, zn6, ex6, dl6, ce6, hG6, hF6⟩
          have hsz := HJ2.out.2.2.2.2.2.2.2.2.1.size
          have hnewR : Hid (TickR base N w K Z F { G with now := G.now + n } (GSt.closeDue G.op.length { G with now := G.now + n }) (G.cl.length + G.op.length) w6) := by
            obtain ⟨hT, hfu, hsub, hB, k1, z1, kn, zn, hFx, hd, hml2, hwin, hnow⟩ := HJ2.out
            exact Lib.hid ⟨f, G'.close x.t x.l, K6, Z6, m6, hT, by show (GSt.delOf x.t G'.op).length ≤ f; omega, hwin, hnow, fun y hy => hsub y (mem_delOf.1 hy).1, by rw [close_cl, close_op, List.length_append, List.length_singleton]; omega,
              fun b e => k6 b (k1 b e), fun b e => z6 b (z1 b e), fun b e => (kn6 b e).elim (kn b) fun e => .inr (Nat.le_trans hsz e), fun b e => (zn6 b e).elim (zn b) fun e => .inr (Nat.le_trans hsz e), ex6, by rw [dl6]; exact hml2, hG6, (hFx.trans hF6 fun b hb e => (kn b e).elim id fun e => by omega)⟩
          have hmz : G.cl.length + G.op.length - clN w6 F < G.cl.length + G.op.length - clN wr F := by
            obtain ⟨hT, hfu, hsub, hB, k1, z1, kn, zn, hFx, hd, hml2, hwin, hnow⟩ := HJ2.out
            rw [HM.out, hG6.clN]
            have e1 : (G'.close x.t x.l).cl.length = G'.cl.length + 1 := by simp [GSt.close]
            rw [e1]
            omega
          clear k6 z6 kn6 zn6 ex6 dl6 ce6 hG6 hF6 CL hsz
          go_wp2_with fail
          exact ⟨hnewR, hmz⟩
end
end Go.Proofs.YtoojpagpkbcfjaaGreat


/- Layer 20: CheckSetup, New, Closed. -/
namespace Go.Proofs.YtoojpagpkbcfjaaGreat
open Go.RowKit
attribute [local go_sem ↓] loadTr_shut storeKG_shut loadGa_shut appKG_shut
/-- What CheckSetup answers. -/
def gaChk (win cap : Int) : Nat := if win < 1 ∨ 1099511627776 < win ∨ cap < 1 ∨ 32 < cap then 2 else 0
set_option maxRecDepth 100000 in
set_option maxHeartbeats 1000000 in
theorem gaSetup (w : World) (win cap : Int) : Calls Tryz.prog 8 #[.agg #[.int .i64 win, .int .i64 cap]] w fun e w' => e = .returned (.int .i64 (gaChk win cap : Nat)) ∧ Below w.heap.size w w' := by
  have HB : Hid (Below w.heap.size w (w.alloc (.cells #[.int .i64 win, .int .i64 cap] 23))) := Lib.hid ((Below.refl _ w).alloc (Nat.le_refl _) _)
  have t1 : Hid (∀ q : Nat, gaChk win cap = q → (Value.int .i64 (gaChk win cap : Nat)) = .int .i64 (q : Int)) := Lib.hid fun q h => by rw [h]
  by_cases h1 : win < 1
  · have hc : gaChk win cap = 2 := if_pos (.inl h1)
    rw [hc]
    go_enter Tryz.func8, Tryz.ntmps8
    go_wp2_with fail
    go_ret
    exact ⟨rfl, HB.out⟩
  · by_cases h2 : 1099511627776 < win
    · have hc : gaChk win cap = 2 := if_pos (.inr (.inl h2))
      rw [hc]
      go_enter Tryz.func8, Tryz.ntmps8
      go_wp2_with fail
      go_ret
      exact ⟨rfl, HB.out⟩
    · by_cases h3 : cap < 1
      · have hc : gaChk win cap = 2 := if_pos (.inr (.inr (.inl h3)))
        rw [hc]
        go_enter Tryz.func8, Tryz.ntmps8
        go_wp2_with fail
        go_ret
        exact ⟨rfl, HB.out⟩
      · by_cases h4 : 32 < cap
        · have hc : gaChk win cap = 2 := if_pos (.inr (.inr (.inr h4)))
          rw [hc]
          go_enter Tryz.func8, Tryz.ntmps8
          go_wp2_with fail
          go_ret
          exact ⟨rfl, HB.out⟩
        · have hc : gaChk win cap = 0 := if_neg (by omega)
          rw [hc]
          go_enter Tryz.func8, Tryz.ntmps8
          go_wp2_with fail
          go_ret
          exact ⟨rfl, HB.out⟩
set_option maxRecDepth 100000 in
set_option maxHeartbeats 1000000 in
theorem gaNewBad (w : World) (win cap : Int) (h : gaChk win cap ≠ 0) : Calls Tryz.prog 6 #[.agg #[.int .i64 win, .int .i64 cap]] w fun e w' => e = .returned (.tuple #[.pointer none, .int .i64 (gaChk win cap : Nat)]) ∧ Below w.heap.size w w' := by
  have hb1 : Below w.heap.size w (w.alloc (.cells #[.int .i64 win, .int .i64 cap] 23)) := (Below.refl _ w).alloc (Nat.le_refl _) _
  have CS := Lib.hid (gaSetup (w.alloc (.cells #[.int .i64 win, .int .i64 cap] 23)) win cap)
  obtain ⟨q, hq⟩ : ∃ q : Nat, gaChk win cap = q := ⟨_, rfl⟩
  rw [hq] at h CS
  rw [hq]
  have hq0 : ((q : Int) != 0) = true := by simp; omega
  clear hq
  have HB := Lib.hid hb1
  clear hb1
  go_enter Tryz.func6, Tryz.ntmps6
  go_wp2_with fail
  refine CS.out.mono ?_
  rintro e w2 ⟨rfl, hb2⟩
  go_wp2_with fail
  go_ret2
  exact ⟨rfl, HB.out.trans (hb2.mono (by simp))⟩
set_option maxRecDepth 100000 in
set_option maxHeartbeats 1000000 in
theorem gaNew (w : World) (win cap : Int) (h : gaChk win cap = 0) : Calls Tryz.prog 6 #[.agg #[.int .i64 win, .int .i64 cap]] w fun e w' => ∃ F, e = .returned (.tuple #[ptV F, .int .i64 0]) ∧ w.heap.size ≤ F ∧ (∃ m, m.ex = none ∧ m.dl = [] ∧ Gf w.heap.size w' (fun b => w.heap.size ≤ b ∧ b < w'.heap.size) Kno F (GSt.new win cap) m) ∧ Below w.heap.size w w' := by
  have hmm := @run_makeMap Tryz.prog
  have hb1 : Below w.heap.size w (w.alloc (.cells #[.int .i64 win, .int .i64 cap] 23)) := (Below.refl _ w).alloc (Nat.le_refl _) _
  have b1 := Bk.new w 23 #[.int .i64 win, .int .i64 cap]
  have hs1 : (w.alloc (.cells #[.int .i64 win, .int .i64 cap] 23)).heap.size = w.heap.size + 1 := by simp
  have CS := Lib.hid (gaSetup (w.alloc (.cells #[.int .i64 win, .int .i64 cap] 23)) win cap)
  rw [h] at CS
  obtain ⟨w1, e1⟩ : ∃ w1, w.alloc (.cells #[.int .i64 win, .int .i64 cap] 23) = w1 := ⟨_, rfl⟩
  rw [e1] at hb1 b1 hs1 CS
  have E1 := Lib.hid e1
  have HB := Lib.hid hb1
  have B1 := Lib.hid b1
  have HS1 := Lib.hid hs1
  clear hb1 b1 hs1 e1 h
  go_enter Tryz.func6, Tryz.ntmps6
  go_wp2_with fail
  rw [E1.out]
  refine CS.out.mono ?_
  rintro e w2 ⟨rfl, hb2⟩
  have b2 : Bk w2 w.heap.size 23 #[.int .i64 win, .int .i64 cap] := (hb2.block _ (by have := HS1.out; omega)).trans B1.out
  have k0 : w2.cell? ⟨w.heap.size, 0, none⟩ = some (.int .i64 win) := (b2.cell 0).trans rfl
  have k1 : w2.cell? ⟨w.heap.size, 1, none⟩ = some (.int .i64 cap) := (b2.cell 1).trans rfl
  have hb2' := hb2.size
  have hbw := HB.out.trans (hb2.mono (by have := HS1.out; omega))
  have m3 := Mh.new (kv := trV) (vv := ptV) w2
  have f3 := hbw.alloc hbw.size (.map #[] 0)
  obtain ⟨w3, e3⟩ : ∃ w3, w2.alloc (.map #[] 0) = w3 := ⟨_, rfl⟩
  have s3 : w3.heap.size = w2.heap.size + 1 := by rw [← e3]; simp
  rw [e3] at m3 f3
  have m4 := Mh.new (kv := trV) (vv := fun b : Bool => .bool b) w3
  have m34 := m3.alloc (.map #[] 0)
  have f4 := f3.alloc f3.size (.map #[] 0)
  obtain ⟨w4, e4⟩ : ∃ w4, w3.alloc (.map #[] 0) = w4 := ⟨_, rfl⟩
  have s4 : w4.heap.size = w3.heap.size + 1 := by rw [← e4]; simp
  rw [e4] at m4 m34 f4
  obtain ⟨M, hM⟩ : ∃ M : GMem, M = ⟨w2.heap.size, w3.heap.size, .slice none 0 0, .slice none 0 0, fun _ => 0, fun _ => .slice none 0 0, fun _ => [], [], [], [], [], none⟩ := ⟨_, rfl⟩
  have m45 := m4.alloc (.cells (gaC (GSt.new win cap) M) 69)
  have m35 := m34.alloc (.cells (gaC (GSt.new win cap) M) 69)
  have f5 := f4.alloc f4.size (.cells (gaC (GSt.new win cap) M) 69)
  have b5 := Bk.new w4 69 (gaC (GSt.new win cap) M)
  have HE : gaC (GSt.new win cap) M = #[.int .i64 win, .int .i64 cap, .int .i64 0, .map (some w2.heap.size), .slice none 0 0, .map (some (w2.heap.size + 1)), .slice none 0 0, .int .i64 0] := by
    rw [hM, ← s3]
    rfl
  obtain ⟨w5, e5⟩ : ∃ w5, w4.alloc (.cells (gaC (GSt.new win cap) M) 69) = w5 := ⟨_, rfl⟩
  have s5 : w5.heap.size = w4.heap.size + 1 := by rw [← e5]; simp
  rw [e5] at m45 m35 f5 b5
  have V : Gf w.heap.size w5 (fun b => w.heap.size ≤ b ∧ b < w5.heap.size) Kno w4.heap.size (GSt.new win cap) M := by
    have hq := hbw.size
    have hne : w2.heap.size ≠ w3.heap.size := by omega
    subst hM
    exact { blk := b5, opn := m35, opnP := List.Perm.refl _, xfl := (fun x hx => by cases hx), xro := (fun x hx => by cases hx), xsp := (fun x hx => by cases hx), xel := (fun x hx => by cases hx), xinj := (fun x hx => by cases hx), rinj := (fun x hx => by cases hx),
            evr := m45, evrM := (fun t => by simp [GSt.new]), tur := World.ownsRow_nil w5 _ _ 3, hp := (fun k x y _ h2 => absurd h2 (by simp)), hin := (fun x hx => by cases hx), cls := .inl ⟨rfl, rfl⟩, clsE := rfl, clz := (fun e he => by cases he), neE := hne,
            kF := ⟨by omega, by omega⟩, kO := ⟨by show w.heap.size ≤ w2.heap.size; omega, by show w2.heap.size < _; omega⟩, kE := ⟨by show w.heap.size ≤ w3.heap.size; omega, by show w3.heap.size < _; omega⟩, kT := (fun g e => by cases e), kC := (fun g e => by cases e), kX := (fun x hx => by cases hx), kR := (fun x hx => by cases hx),
            kz := (fun b _ e => e), lo := (fun b e => e), loZ := (fun b e => e.elim) }
  have S3 := Lib.hid s3
  have S4 := Lib.hid (And.intro s4 hbw.size)
  have HV := Lib.hid V
  have HF := Lib.hid f5
  have E3 := Lib.hid e3
  have E4 := Lib.hid e4
  have HM := Lib.hid hM
  rw [HE] at e5
  have E5 := Lib.hid e5
  clear V f5 e3 e4 e5 m3 m4 m34 m45 m35 f3 f4 b5 hM HE hbw hb2 b2 hb2' s3 s4 s5
  go_wp2_with fail
  go_ret2
  rw [E3.out, E4.out, E5.out]
  refine ⟨w4.heap.size, ?_, by have := S3.out; have := S4.out; omega, ⟨M, by rw [HM.out], by rw [HM.out], HV.out⟩, HF.out⟩
  rw [S4.out.1, S3.out]
  rfl
end Go.Proofs.YtoojpagpkbcfjaaGreat


/- Layer 20: Closed. -/
namespace Go.Proofs.YtoojpagpkbcfjaaGreat
open Go.RowKit
attribute [local go_sem ↓] loadTr_shut storeKG_shut loadGa_shut appKG_shut
abbrev trL (t : Tr) : List Value := [.int .u64 (t.hi : Nat), .int .u64 (t.lo : Nat)]
theorem trL_length (t : Tr) : (trL t).length = 2 := rfl
theorem trL_one (t : Tr) : ∀ u ∈ trL t, u.oneCell' = true := by
  intro u hu
  simp at hu
  rcases hu with rfl | rfl <;> rfl
theorem trinfo : (Tryz.prog.info? 37).map (fun i => (i.zero, i.size, i.bytes)) = some (some (.agg #[.int .u64 0, .int .u64 0]), 2, 16) := by kernel_rfl
/-- A trace more. -/
theorem run_appTr {w : World} {base g n : Nat} {v : Value} {xs : List Tr} {t : Tr} (h : w.ownsRow base 37 2 v n (flatR trL xs)) (hb : base ≤ w.heap.size) (hn : n ≤ 1000000000) (hG : Bk w g 37 (trC t)) :
    ∃ A' c' w', (appKG #[54, 54] 54 #[v, .slice (some ⟨g, 0, none⟩) 1 1]).run Tryz.prog w = .ok (.slice A' (n + 1) c') w' ∧ w'.ownsRow base 37 2 (.slice A' (n + 1) c') (n + 1) (flatR trL (xs ++ [t])) ∧ w.grownBy w' v.ownBlock := by
  obtain ⟨i0, hi0, hz0, hz1, hz2⟩ := info_parts trinfo
  obtain ⟨v', w', hrun, r1, r2, r3⟩ := run_append_own (P := Tryz.prog) w base 54 54 37 i0 _ 2 16 Tryz.underlying54 hi0 hz0 hz1 hz2 rfl (by omega) v n _ h ⟨g, 0, none⟩ 1 1 (trL t) rfl (fun j u hj => by
    rw [Addr.add_lit, Nat.zero_add, hG.cell j]
    simpa using hj) (trL_one t) (by simp [maxLen]; omega) (by omega) hb
  have e1 : flatR trL (xs ++ [t]) = flatR trL xs ++ trL t := by rw [flatR_append, flatR_cons]; simp [flatR]
  obtain ⟨A, c, hv, -⟩ := own_form r1
  subst hv
  exact ⟨A, c, w', hrun, by rw [e1]; exact r1, r2⟩
section
variable {base F : Nat} {w w' : World} {K K' Z Z' : Nat → Prop} {G : GSt} {m : GMem}
/-- A list of traces, new. -/
def TrsP (w : World) (l : List Tr) (e : Ending) (w' : World) : Prop :=
  ∃ A c, e = .returned (.slice A l.length c) ∧ w'.ownsRow w.heap.size 37 2 (.slice A l.length c) l.length (flatR trL l) ∧ Below w.heap.size w w'
set_option maxRecDepth 100000 in
theorem loadK_trG {g : Nat} {c : ClE} (h : Bk w g 47 (clC c).toArray) : (loadK 37 ⟨g, 0, none⟩).run Tryz.prog w = .ok (trV c.t) w :=
  run_loadVar_cells w _ _ ⟨g, 0, none⟩ [.int .u64 (c.t.hi : Nat), .int .u64 (c.t.lo : Nat)] Tryz.underlying37 rfl (by rfl) (fun j v hv => by
    rw [Addr.add_lit, Nat.zero_add, h.cell j]
    match j, hv with
    | 0, hv => simpa [clC] using hv
    | 1, hv => simpa [clC] using hv
    | j + 2, hv => simp at hv)
set_option maxRecDepth 100000 in
set_option maxHeartbeats 2000000 in
theorem gaClosed (h : Gf base w K Z F G m) (hn : G.cl.length ≤ 1000000) : Calls Tryz.prog 19 #[ptV F] w (TrsP w (G.cl.map (·.1))) := by
  have CN := Lib.hid (gaNone h)
  have hcl : G.cl.map (·.1) = m.ce.map (·.t) := by rw [← h.clsE]; simp [clsOf]
  have hl : m.ce.length = G.cl.length := by rw [← h.clsE]; simp [clsOf]
  obtain ⟨n, hnn⟩ : ∃ n, m.ce.length = n := ⟨_, rfl⟩
  obtain ⟨A, c, hv, hA⟩ : ∃ A c, m.cv = .slice A n c ∧ (0 < n → ∃ g off, A = some ⟨g, off, none⟩ ∧ g < w.heap.size ∧ ∀ j u, (flatR clC m.ce)[j]? = some u → w.cell? ⟨g, off + j, none⟩ = some u) := by
    have hq := h.cls
    rcases hq with ⟨h1, h2⟩ | ⟨g, off, cap, cur, h1, h2, h3, h4, h5, h6⟩
    · rw [h2] at hnn
      obtain rfl : n = 0 := hnn.symm
      exact ⟨_, _, h1, fun h => absurd h (by omega)⟩
    · rw [hnn] at h1
      exact ⟨_, _, h1, fun _ => ⟨g, off, rfl, h3.lt, fun j u hj => (h3.cell _).trans (h6 j u hj)⟩⟩
  have c6 : w.cell? ⟨F, 6, none⟩ = some (.slice A n c) := by rw [h.blk.cell 6, ← hv]; rfl
  have hn' : n ≤ 1000000 := by omega
  have HA := Lib.hid hA
  have HL := Lib.hid (And.intro hcl hnn)
  clear h hcl hl hnn hv hn hA
  go_enter Tryz.func19, Tryz.ntmps19
  go_wp2_with fail
  refine CN.out.mono ?_
  rintro e w2 ⟨rfl, rfl⟩
  go_wp2_with fail
  clear c6
  go_loopw [3, 5, 13] (fun v _ i wx => ∃ k : Nat, k ≤ n ∧ i = .int .i64 k ∧ Hid (∃ A c, v = .slice A k c ∧ wx.ownsRow w.heap.size 37 2 (.slice A k c) k (flatR trL ((m.ce.take k).map (·.t))) ∧ FrK w wx Kno)) (fun _ _ i _ => n - (intOf i).toNat)
  case atStart => exact ⟨0, Nat.zero_le _, rfl, Lib.hid ⟨none, 0, rfl, World.ownsRow_nil w _ _ 2, FrK.refl _ _⟩⟩
  case round =>
    obtain ⟨k, hk, rfl, HR⟩ := hrel
    obtain ⟨A1, c1, rfl, hown, hf⟩ := HR.out
    clear HR
    by_cases hlt : k < n
    · obtain ⟨g, off, hAA, hg, hcells⟩ := HA.out (by omega)
      subst hAA
      have hlt' : (k : Int) < (n : Int) := by omega
      obtain ⟨x, hx⟩ : ∃ x, m.ce[k]? = some x := ⟨_, List.getElem?_eq_getElem (by rw [HL.out.2]; exact hlt)⟩
      have l1 : (loadK 47 ⟨g, off + k * 3, none⟩).run Tryz.prog wr = .ok (clV x) wr := loadK_gaC fun j u hj => by
        have hj3 : j < 3 := (List.getElem?_eq_some_iff.1 hj).1
        rw [Nat.add_assoc]
        refine (World.cell?_of_block (a := ⟨g, off + (k * 3 + j), none⟩) (hf.block g hg fun e => e)).trans (hcells _ _ ?_)
        rw [flatR_get clC_length hx j hj3]
        exact hj
      obtain ⟨w2, s2, k2, f2⟩ := gaBox x (Bk.new wr 47 #[.int .u64 0, .int .u64 0, .slice none 0 0]) rfl
      have t2 := loadK_trG k2
      have own2 : (w2.alloc (.cells #[.int .u64 (x.t.hi : Nat), .int .u64 (x.t.lo : Nat)] 37)).ownsRow w.heap.size 37 2 (.slice A1 k c1) k (flatR trL ((m.ce.take k).map (·.t))) := by
        refine own_of hown fun q hq => ?_
        have hq2 := (hown.lt q hq).2
        have e1 := ((FrK.refl wr Kno).alloc (.cells #[.int .u64 0, .int .u64 0, .slice none 0 0] 47)).block q hq2 fun e => e
        have hq3 : q < (wr.alloc (.cells #[.int .u64 0, .int .u64 0, .slice none 0 0] 47)).heap.size := by simp; omega
        have e2 := f2.block q hq3 fun e => absurd (show q = wr.heap.size from e) (by omega)
        have e3 := ((FrK.refl w2 Kno).alloc (.cells #[.int .u64 (x.t.hi : Nat), .int .u64 (x.t.lo : Nat)] 37)).block q (Nat.lt_of_lt_of_le hq3 f2.size) fun e => e
        exact e3.trans (e2.trans e1)
      have f3 := (((hf.alloc (.cells #[.int .u64 0, .int .u64 0, .slice none 0 0] 47)).trans f2 fun b hb e => absurd (show b = wr.heap.size from e) (by have := hf.size; omega)).alloc (.cells #[.int .u64 (x.t.hi : Nat), .int .u64 (x.t.lo : Nat)] 37))
      obtain ⟨A3, c3, w3, hrun, own3, gr3⟩ := run_appTr own2 f3.size (by omega) (Bk.new w2 37 (trC x.t))
      have f4 := f3.trans (FrK.of_grown (K := fun b => w.heap.size ≤ b) gr3 fun b hb e => (own2.lt b e).1) fun b hb e => absurd e (by omega)
      have htk : (m.ce.take k).map (·.t) ++ [x.t] = (m.ce.take (k + 1)).map (·.t) := by
        rw [List.take_add_one, hx, List.map_append]
        rfl
      rw [htk] at own3
      have HR : Hid (∃ A c, Value.slice A3 (k + 1) c3 = .slice A (k + 1) c ∧ w3.ownsRow w.heap.size 37 2 (.slice A (k + 1) c) (k + 1) (flatR trL ((m.ce.take (k + 1)).map (·.t))) ∧ FrK w w3 Kno) := Lib.hid ⟨A3, c3, rfl, own3, f4⟩
      clear f4 own3 gr3 f3 own2 f2 hown hf hcells
      go_wp2_with fail
      go_roundw
      case rel => exact ⟨k + 1, by omega, by go_num, HR⟩
      case measure => simp [intOf]; omega
    · obtain rfl : k = n := by omega
      have HR := Lib.hid (And.intro hown hf)
      clear hown hf
      go_wp2_with fail
      go_ret
      obtain ⟨hown, hf⟩ := HR.out
      rw [List.take_of_length_le (by rw [HL.out.2]; exact Nat.le_refl _), ← HL.out.1] at hown
      have hlen : (G.cl.map (·.1)).length = k := by rw [HL.out.1, List.length_map]; exact HL.out.2
      refine ⟨A1, c1, by rw [hlen]; rfl, ?_, hf.below (Nat.le_refl _) fun b e => e.elim⟩
      rw [hlen]
      exact hown
end
end Go.Proofs.YtoojpagpkbcfjaaGreat


/- Layer 20: SortFunc of traces; Open. -/
namespace Go.Proofs.YtoojpagpkbcfjaaGreat
open Go.RowKit Go.Shelf Go.Sort
theorem tr_lt (x y : Tr) : decide (cmpTr x.hi x.lo y.hi y.lo < 0) = Tr.lt x y := by
  have h := due_lt (x, 0) (y, 0)
  unfold dLt at h
  simp only [orL, cmpI] at h
  unfold Tr.lt
  simp at h ⊢
  rw [← h]
  congr 1
  by_cases hz : cmpTr x.hi x.lo y.hi y.lo = 0
  · rw [if_pos hz, hz]
  · rw [if_neg hz]
theorem swo_tr : SWO (ltOf fun x y : Tr => cmpTr x.hi x.lo y.hi y.lo) where
  irrefl x := by
    show decide _ = false
    rw [tr_lt, Tr.lt_irr]
  trans x y z h1 h2 := by
    unfold ltOf at *
    rw [tr_lt] at *
    exact Tr.lt_tr h1 h2
  ntrans x y z h1 h2 := by
    unfold ltOf at *
    rw [tr_lt] at *
    simp only [Tr.lt, decide_eq_false_iff_not] at *
    omega
theorem flat_trs [Inhabited Tr] (d : Array Tr) : (flatK trL 2 d).toList = flatR trL d.toList := by
  apply List.ext_getElem?
  intro j
  by_cases hj : j < d.size * 2
  · have hj1 : j < (flatK trL 2 d).size := by rw [size_flatK]; exact hj
    have hq : j / 2 < d.size := by omega
    have hm : j % 2 < 2 := Nat.mod_lt _ (by omega)
    have h1 := flatR_get (f := trL) trL_length (l := d.toList) (i := j / 2) (x := d[j / 2]) (by simp [hq]) (j % 2) hm
    rw [show j / 2 * 2 + j % 2 = j from by omega] at h1
    rw [h1, Array.getElem?_toList, Array.getElem?_eq_getElem hj1]
    have h2 := get_flatK trL 2 d j hj
    rw [getElem!_pos _ j hj1, getElem!_pos d (j / 2) hq] at h2
    rw [h2, List.getElem!_eq_getElem?_getD, List.getElem?_eq_getElem (by rw [trL_length]; exact hm)]
    rfl
  · rw [List.getElem?_eq_none (by rw [Array.length_toList, size_flatK]; omega), List.getElem?_eq_none (by rw [flatR_length trL_length]; simp; omega)]
theorem sizeOf_tr (w : World) : (Go.sizeOf 37).run Tryz.prog w = .ok 2 w := by
  have h : (Tryz.prog.info? 37).map (·.size) = some 2 := by kernel_rfl
  cases hq : Tryz.prog.info? 37 with
  | none => simp [hq] at h
  | some i =>
    have hs : i.size = 2 := by simpa [hq] using h
    simp [sizeOf, typeInfo, Sem.run_bind, hq, hs]
theorem isAgg_tr (w : World) : (isAgg 37).run Tryz.prog w = .ok true w := by
  unfold isAgg
  rw [Sem.run_bind, run_underlying Tryz.underlying37 w]
  rfl
def SortTr (l : List Tr) : Prop := l.Pairwise fun a b => Tr.lt b a = false
theorem SortTr.eq {l : List Tr} {op : List Opn} (hl : SortTr l) (hs : OpS op) (h : l.Perm (op.map (·.t))) : l = op.map (·.t) := by
  refine List.Perm.eq_of_pairwise (le := fun a b => Tr.lt b a = false) (fun a b _ _ h1 h2 => Tr.eq_of h2 h1) hl ?_ h
  rw [List.pairwise_map]
  refine hs.imp fun {a b} h => ?_
  cases hq : Tr.lt b.t a.t with
  | false => rfl
  | true => exact absurd (Tr.lt_tr h hq) (by rw [Tr.lt_irr]; decide)
/-- slices.SortFunc of traces. -/
def SortTrPost (w : World) (base : Nat) (v : Value) (n : Nat) (l : List Tr) (e : Ending) (w' : World) : Prop :=
  e = .returned (.tuple #[]) ∧ ∃ l', l'.Perm l ∧ SortTr l' ∧ w'.ownsRow base 37 2 v n (flatR trL l') ∧ w.grownBy w' v.ownBlock
set_option maxRecDepth 100000 in
theorem sortTrs {base n cap : Nat} {A : Option Addr} {l : List Tr} (w : World) (h : w.ownsRow base 37 2 (.slice A n cap) n (flatR trL l)) (hl : l.length = n) (hn : n < 4611686018427387904) :
    Calls Tryz.prog 46 #[.slice A n cap, .func (.func 47) #[] #[]] w (SortTrPost w base (.slice A n cap) n l) := by
  rcases h.2 with ⟨h1, h2⟩ | ⟨g, cap', cur, hv, hbase, hb, hnc, hcm, hcs, htk⟩
  · injection h1 with e1 _ e3
    subst e1 e3 h2
    refine (AnyF.slices_SortFunc_none Try.sortTr none 0 _ w).mono ?_
    rintro e w' ⟨rfl, rfl⟩
    have hl : l = [] := List.eq_nil_of_length_eq_zero hl
    subst hl
    exact ⟨rfl, [], List.Perm.refl _, List.Pairwise.nil, h, World.grownBy.refl _ _⟩
  · injection hv with e1 _ e3
    subst e1 e3
    have hgw : g < w.heap.size := (Array.getElem?_eq_some_iff.1 hb).1
    letI : Inhabited Tr := ⟨⟨0, 0⟩⟩
    obtain ⟨d, hd⟩ : ∃ d : Array Tr, d.toList = l := ⟨l.toArray, by simp⟩
    have hds : d.size = n := by
      have := congrArg List.length hd
      simpa [hl] using this
    have hfl := flat_trs d
    rw [hd] at hfl
    have hH : HoldsK trL 2 w g 0 d := by
      intro j hj
      have hj1 : (flatR trL l)[j]? = some ((flatK trL 2 d)[j]!) := by
        rw [← hfl, Array.getElem?_toList, Array.getElem?_eq_getElem hj, getElem!_pos _ j hj]
      have h1 := h.cells (g := g) rfl j _ hj1
      rw [Addr.add_lit] at h1
      exact ⟨h1, by simp [World.frozen?, hb]⟩
    have hcmp : CmpLays Tryz.prog 47 #[] trL 2 (fun x y : Tr => cmpTr x.hi x.lo y.hi y.lo) g 0 d.size w := by
      intro m os dk hs x y
      refine Calls.mono (gaCmpTraces x.hi x.lo y.hi y.lo _) ?_
      rintro e w' ⟨he, hG⟩
      exact ⟨he, Gr.grow hG⟩
    have hrun := AnyQ.slices_SortFunc Try.sortTr 2 isAgg_tr sizeOf_tr trL trL_length (fun x => by
      have := trL_one x
      exact fun v hv => this v hv) (fun x y : Tr => cmpTr x.hi x.lo y.hi y.lo) swo_tr 47 #[] g 0 cap d w (fun _ _ => rfl) hcmp hH hgw (by omega)
    rw [hds] at hrun
    refine Calls.mono hrun ?_
    rintro e w' ⟨rfl, d', q, os, hp, hst, rfl⟩
    have hgr := grown_sort trL 2 w g q d' os
    have hs' : d'.size = n := hp.1.trans hds
    have hperm : (d'.toList).Perm d.toList := by
      have := hp.2.2
      rw [show d'.extract 0 n = d' by rw [← hs']; simp, show d.extract 0 n = d by rw [← hds]; simp] at this
      exact this
    have hfl' := flat_trs d'
    refine ⟨rfl, d'.toList, by rw [← hd]; exact hperm, ?_, ?_, hgr⟩
    · rw [SortTr, List.pairwise_iff_getElem]
      intro i j hi hj hij
      simp only [Array.length_toList] at hi hj
      have h1 := hst i j (Nat.zero_le _) hij (by omega)
      rw [getElem!_pos d' i hi, getElem!_pos d' j hj] at h1
      unfold ltOf at h1
      rw [tr_lt] at h1
      simpa using h1
    · refine ⟨by rw [flatR_length trL_length]; simp [hs'], .inr ⟨g, cap, _, rfl, hbase, heap_sortK d' hb, hnc, hcm, by simp [putCells, hcs], ?_⟩⟩
      rw [← hfl', show n * 2 = (flatK trL 2 d').size by rw [size_flatK, hs']]
      exact take_putCellsK cur _ (by rw [size_flatK, hs', hcs]; exact Nat.mul_le_mul_right 2 hnc)
end Go.Proofs.YtoojpagpkbcfjaaGreat


/- Layer 20: Open. -/
namespace Go.Proofs.YtoojpagpkbcfjaaGreat
open Go.RowKit
def storeKT (t : TypeId) (a : Addr) (v : Value) : Sem Unit := storeVar t a v
theorem storeKT_shut (a : Addr) (v : Value) : storeVar 37 a v = storeKT 37 a v := rfl
attribute [local go_sem ↓] loadTr_shut storeKT_shut appKG_shut
def itG (w : World) (r : Nat) : Nat := match w.heap[r]? with | some (.mapIter _ _ seen _) => seen.size | _ => 0
theorem Rh.itG {κ ν : Type} {kv : κ → Value} {vv : ν → Value} {w : World} {b r : Nat} {L D : List (κ × ν)} (h : Rh kv vv w b r L D) : itG w r = D.length := by
  obtain ⟨T, c, Q, h1, h2, h3, h4, h5, h6⟩ := h
  rw [Proofs.YtoojpagpkbcfjaaGreat.itG, h3, ← h6]
  simp
theorem own_lo {w : World} {base base' size n : Nat} {e : TypeId} {v : Value} {xs : List Value} (h : w.ownsRow base e size v n xs) (hb : base' ≤ base) : w.ownsRow base' e size v n xs :=
  ⟨h.1, h.2.imp id fun ⟨g, cap, cur, hv, hg, r⟩ => ⟨g, cap, cur, hv, Nat.le_trans hb hg, r⟩⟩
set_option maxRecDepth 100000 in
theorem trBox {W : World} (t : Tr) {r : Nat} {cs : Array Value} (hB : Bk W r 37 cs) (hcs : cs.size = 2) : ∃ W2, (storeKT 37 ⟨r, 0, none⟩ (trV t)).run Tryz.prog W = .ok () W2 ∧ Bk W2 r 37 (trC t) ∧ FrK W W2 (Kis r) := by
  have hst := run_storeVar_row (P := Tryz.prog) W r 0 37 37 (trC t) cs hB (by simp; omega) (fun u hu => trL_one t u hu) (by rfl)
  have h2 := setRow_heap W r cs (cs.toList.take 0 ++ (trC t).toList ++ cs.toList.drop (0 + (trC t).size)).toArray _ _ hB
  have e : (cs.toList.take 0 ++ (trC t).toList ++ cs.toList.drop (0 + (trC t).size)).toArray = trC t := by
    have h3 : cs.toList.drop (0 + (trC t).size) = [] := List.drop_eq_nil_of_le (by simp; omega)
    rw [h3]
    simp
  rw [e] at h2 hst
  exact ⟨_, hst, h2, FrK.of_grown (only_row r _) fun b _ e => (Option.some.inj e).symm⟩
section
variable {base F : Nat} {w w' : World} {K K' Z Z' : Nat → Prop} {G : GSt} {m : GMem}
set_option maxRecDepth 100000 in
set_option maxHeartbeats 4000000 in
theorem gaOpen (h : Gf base w K Z F G m) (hs : OpS G.op) (hn : G.op.length ≤ 1000000) : Calls Tryz.prog 21 #[ptV F] w (TrsP w (G.op.map (·.t))) := by
  have CN := Lib.hid (gaNone h)
  have c3 : w.cell? ⟨F, 3, none⟩ = some (.map (some m.ob)) := (h.blk.cell 3).trans rfl
  obtain ⟨L, hL⟩ : ∃ L, (m.Y.map fun t => (t, m.xb t)) = L := ⟨_, rfl⟩
  have hm := h.opn
  rw [hL] at hm
  obtain ⟨c0, hrange, rg0⟩ := Rh.start hm
  have hrg := hrange (P := Tryz.prog) Tryz.underlying63
  have hL1 : (L.map (·.1)).Perm (G.op.map (·.t)) := by
    rw [← hL, List.map_map]
    have e : m.Y.map ((fun p : Tr × Nat => p.1) ∘ fun t => (t, m.xb t)) = m.Y := by
      rw [show ((fun p : Tr × Nat => p.1) ∘ fun t => (t, m.xb t)) = id from rfl, List.map_id]
    rw [e]
    exact h.opnP
  have hLn : L.length ≤ 1000000 := by
    have := hL1.length_eq
    simp at this
    omega
  have f1 := (FrK.refl w Kno).alloc (.mapIter (some m.ob) c0 #[] c0)
  obtain ⟨w1, e1⟩ : ∃ w1, w.alloc (.mapIter (some m.ob) c0 #[] c0) = w1 := ⟨_, rfl⟩
  obtain ⟨r, hr⟩ : ∃ r, w.heap.size = r := ⟨_, rfl⟩
  have s1 : w1.heap.size = r + 1 := by rw [← e1, ← hr]; simp
  have hob : m.ob < w.heap.size := hm.lt
  rw [e1] at rg0 hrg f1
  rw [hr] at rg0 hrg
  have RG := Lib.hid rg0
  have F1 := Lib.hid f1
  have HH := Lib.hid (And.intro hL1 (And.intro hr (And.intro s1 (And.intro hob hs))))
  obtain ⟨ob, hobq⟩ : ∃ ob, m.ob = ob := ⟨_, rfl⟩
  rw [hobq] at RG c3 hrg HH
  clear h hm hrange rg0 f1 hL hL1 e1 hr s1 hob hs hobq
  go_enter Tryz.func21, Tryz.ntmps21
  go_wp2_with fail
  refine CN.out.mono ?_
  rintro e w2 ⟨rfl, rfl⟩
  go_wp2_with fail
  clear c3 hrg
  go_loopw [3, 4] (fun v _ wx => ∃ D : List (Tr × Nat), Hid (∃ A c, v = .slice A D.length c ∧ wx.ownsRow (r + 1) 37 2 (.slice A D.length c) D.length (flatR trL (D.map (·.1))) ∧ Rh trV ptV wx ob r L D ∧ FrK w wx Kno)) (fun _ _ wx => L.length - itG wx r)
  case atStart => exact ⟨[], Lib.hid ⟨none, 0, rfl, World.ownsRow_nil w1 _ _ 2, RG.out, F1.out⟩⟩
  case round =>
    obtain ⟨D, HR⟩ := hrel
    obtain ⟨A1, c1, rfl, hown, hrh, hf⟩ := HR.out
    clear HR
    have hitD := hrh.itG
    have hsz1 : r + 1 ≤ wr.heap.size := by have := hrh.ltr; omega
    rcases hrh.next (P := Tryz.prog) 0 with ⟨hperm, hrun⟩ | ⟨t, xb, w6, hmem, -, hrun, hrh6, hlen, hgr, hsz⟩
    · have hnx : ∀ ty, (Instr.next (.pointer (some ⟨r, 0, none⟩)) false ty).run Tryz.prog wr = _ := fun _ => hrun
      have hDl : D.length ≤ 1000000 := by have := hperm.length_eq; omega
      obtain ⟨k, hk⟩ : ∃ k, D.length = k := ⟨_, rfl⟩
      rw [hk] at hown hDl
      rw [hk]
      have CS := Lib.hid (sortTrs wr hown (by rw [List.length_map]; exact hk) (by omega))
      have HJ := Lib.hid (And.intro hperm (And.intro hk (And.intro hf hown)))
      clear hperm hk hf hown hrh hrun hitD hsz1 hDl
      go_wp2_with fail
      refine CS.out.mono ?_
      rintro e w8 ⟨rfl, l', hp', hst', own8, gr8⟩
      have HJ8 := Lib.hid (And.intro hp' (And.intro hst' (And.intro own8 gr8)))
      clear hp' hst' own8 gr8 CS
      go_wp2_with fail
      go_ret
      obtain ⟨hp', hst', own8, gr8⟩ := HJ8.out
      obtain ⟨hperm, hk, hf, hown⟩ := HJ.out
      have e1 : l' = G.op.map (·.t) := hst'.eq HH.out.2.2.2.2 (hp'.trans ((hperm.map _).trans HH.out.1))
      have e2 : (G.op.map (·.t)).length = k := by rw [← e1, hp'.length_eq, List.length_map]; exact hk
      rw [e1] at own8
      refine ⟨A1, c1, by rw [e2]; rfl, ?_, ?_⟩
      · rw [e2]
        exact own_lo own8 (by have := HH.out.2.1; omega)
      · exact (hf.trans (FrK.of_grown (K := fun b => w.heap.size ≤ b) gr8 fun b _ e => by have := (hown.lt b e).1; have := HH.out.2.1; omega) fun b hb e => absurd e (by omega)).below (Nat.le_refl _) fun b e => e.elim
    · have hnx : ∀ ty, (Instr.next (.pointer (some ⟨r, 0, none⟩)) false ty).run Tryz.prog wr = _ := fun _ => hrun
      have hen := hrh6.entry (P := Tryz.prog)
      have hob := HH.out.2.2.2.1
      have hrq := HH.out.2.1
      have own6 : w6.ownsRow (r + 1) 37 2 (.slice A1 D.length c1) D.length (flatR trL (D.map (·.1))) := own_of hown fun g hg => hgr.block g (hown.lt g hg).2 fun e => by
        have := (hown.lt g hg).1
        have e : g = r := Option.some.inj e
        omega
      have f6 : FrK w w6 Kno := hf.trans (FrK.of_grown (K := Kis r) hgr fun b _ e => (Option.some.inj e).symm) fun b hb e => by
        simp only [Kis] at e
        omega
      obtain ⟨w7, s7, k7, f7⟩ := trBox t (Bk.new w6 37 #[.int .u64 0, .int .u64 0]) rfl
      have t7 := loadK_trB k7
      have h67 : ∀ q, q < w6.heap.size → (w7.alloc (.cells #[.int .u64 (t.hi : Nat), .int .u64 (t.lo : Nat)] 37)).heap[q]? = w6.heap[q]? := fun q hq2 => by
        have e1 := ((FrK.refl w6 Kno).alloc (.cells #[.int .u64 0, .int .u64 0] 37)).block q hq2 fun e => e
        have hq3 : q < (w6.alloc (.cells #[.int .u64 0, .int .u64 0] 37)).heap.size := by simp; omega
        have e2 := f7.block q hq3 fun e => absurd (show q = w6.heap.size from e) (by omega)
        have e3 := ((FrK.refl w7 Kno).alloc (.cells #[.int .u64 (t.hi : Nat), .int .u64 (t.lo : Nat)] 37)).block q (Nat.lt_of_lt_of_le hq3 f7.size) fun e => e
        exact e3.trans (e2.trans e1)
      have own7 := own_of (w' := w7.alloc (.cells #[.int .u64 (t.hi : Nat), .int .u64 (t.lo : Nat)] 37)) own6 fun q hq => h67 q (own6.lt q hq).2
      have hrh7 := hrh6.of (h67 _ hrh6.map.lt) (h67 _ hrh6.ltr)
      have f8 := (((f6.alloc (.cells #[.int .u64 0, .int .u64 0] 37)).trans f7 fun b hb e => absurd (show b = w6.heap.size from e) (by have := f6.size; omega)).alloc (.cells #[.int .u64 (t.hi : Nat), .int .u64 (t.lo : Nat)] 37))
      obtain ⟨A3, c3, w9, hrun9, own9, gr9⟩ := run_appTr own7 (by have := f8.size; have := hrh7.ltr; omega) (by omega) (Bk.new w7 37 (trC t))
      have f9 := f8.trans (FrK.of_grown (K := fun b => w.heap.size ≤ b) gr9 fun b hb e => by have := (own7.lt b e).1; omega) fun b hb e => absurd e (by omega)
      have hrh9 := hrh7.grown gr9 (fun e => by have := (own7.lt ob e.symm).1; omega) (fun e => by have := (own7.lt r e.symm).1; omega)
      have hD1 : D.map (·.1) ++ [t] = (D ++ [(t, xb)]).map (·.1) := by simp
      rw [hD1] at own9
      have hdl : (D ++ [(t, xb)]).length = D.length + 1 := by simp
      have hit9 := hrh9.itG
      rw [hdl] at hit9
      have HR : Hid (∃ A c, Value.slice A3 (D.length + 1) c3 = .slice A (D ++ [(t, xb)]).length c ∧ w9.ownsRow (r + 1) 37 2 (.slice A (D ++ [(t, xb)]).length c) (D ++ [(t, xb)]).length (flatR trL ((D ++ [(t, xb)]).map (·.1))) ∧ Rh trV ptV w9 ob r L (D ++ [(t, xb)]) ∧ FrK w w9 Kno) := Lib.hid ⟨A3, c3, by rw [hdl], by rw [hdl]; exact own9, hrh9, f9⟩
      have HMS : Hid (L.length - itG w9 r < L.length - itG wr r) := Lib.hid (by rw [hit9, hitD]; omega)
      clear hsz own9 hrh9 f9 f8 hrh7 own7 h67 f6 own6 hrh6 hrh hf hown hgr hmem hlen hD1 hdl hit9 hitD hsz1 hrq hob gr9
      go_wp2_with fail
      exact ⟨⟨_, HR⟩, HMS.out⟩
end
end Go.Proofs.YtoojpagpkbcfjaaGreat


/- Layer 20, plain: what every call keeps. -/
namespace Go.Proofs.YtoojpagpkbcfjaaGreat
open Go.RowKit
/-- A closed trace: spans of it, in order. -/
def ClP (p : Tr × List Sp) : Prop := p.2 ≠ [] ∧ p.2.length ≤ 32 ∧ ordS p.2 = p.2 ∧ ∀ s ∈ p.2, spChk s = 0 ∧ s.tr = p.1
theorem ClP.mk {t : Tr} {l : List Sp} (h1 : l ≠ []) (h2 : l.length ≤ 32) (h3 : ∀ s ∈ l, spChk s = 0 ∧ s.tr = t) : ClP (t, ordS l) := by
  refine ⟨fun e => h1 ?_, by rw [ordS_length]; exact h2, ordS_same (ordS_perm l), fun s hs => h3 s ((ordS_perm l).mem_iff.1 hs)⟩
  have := ordS_length l
  rw [show ordS l = [] from e] at this
  exact List.eq_nil_of_length_eq_zero this.symm
structure GSt.Ok (k : Nat) (G : GSt) : Prop where
  win : 1 ≤ G.win ∧ G.win ≤ 1099511627776
  cap : 1 ≤ G.cap ∧ G.cap ≤ 32
  now : 0 ≤ G.now ∧ G.now ≤ 1152921504606846976
  ops : OpS G.op
  opn : ∀ x ∈ G.op, x.l ≠ [] ∧ (x.l.length : Int) < G.cap ∧ (∀ s ∈ x.l, spChk s = 0 ∧ s.tr = x.t) ∧ 0 ≤ x.time ∧ x.time ≤ G.now ∧ x.t ∉ G.all
  late : G.late ≤ k
  clp : ∀ p ∈ G.cl, ClP p
  num : G.cl.length + G.op.length ≤ k
theorem GSt.Ok.mono {k k' : Nat} {G : GSt} (h : G.Ok k) (hk : k ≤ k') : G.Ok k' := { h with late := Nat.le_trans h.late hk, num := Nat.le_trans h.num hk }
theorem GSt.new_ok {win cap : Int} (h : gaChk win cap = 0) : (GSt.new win cap).Ok 0 := by
  unfold gaChk at h
  split at h
  · cases h
  · rename_i hn
    exact ⟨⟨by show 1 ≤ win; omega, by show win ≤ _; omega⟩, ⟨by show 1 ≤ cap; omega, by show cap ≤ _; omega⟩, ⟨by simp [GSt.new], by simp [GSt.new]⟩, List.Pairwise.nil, fun x hx => (by cases hx), Nat.le_refl _, fun p hp => (by cases hp), Nat.le_refl _⟩
theorem putIn_length (x : Opn) : ∀ l : List Opn, (GSt.putIn x l).length ≤ l.length + 1
  | [] => Nat.le_refl _
  | y :: l => by
    unfold GSt.putIn
    split
    · have := putIn_length x l
      simp only [List.length_cons]
      omega
    · split
      · simp
      · simp
theorem GSt.get_mem' {G : GSt} {t : Tr} {x : Opn} (h : G.get t = some x) : x ∈ G.op ∧ x.t = t := get_mem h
/-- The spans that Add comes to close, or keeps. -/
def GSt.lst (G : GSt) (s : Sp) : List Sp := (match G.get s.tr with | some x => x.l | none => []) ++ [s]
theorem GSt.add_eq (G : GSt) (s : Sp) : G.add s = if spChk s ≠ 0 then (G, 0, spChk s) else if s.tr ∈ G.all then ({ G with late := G.late + 1 }, 2, 0) else if G.cap ≤ ((G.lst s).length : Int) then (G.close s.tr (G.lst s), 3, 0) else ({ G with op := GSt.putIn ⟨s.tr, G.lst s, G.now⟩ G.op }, 1, 0) := rfl
theorem GSt.Ok.lst {k : Nat} {G : GSt} (h : G.Ok k) {s : Sp} (hs : spChk s = 0) : G.lst s ≠ [] ∧ (∀ u ∈ G.lst s, spChk u = 0 ∧ u.tr = s.tr) ∧ (G.lst s).length ≤ 32 := by
  unfold GSt.lst
  refine ⟨by simp, fun u hu => ?_, ?_⟩
  · rcases List.mem_append.1 hu with hu | hu
    · cases hg : G.get s.tr with
      | none => rw [hg] at hu; cases hu
      | some x =>
        rw [hg] at hu
        obtain ⟨h1, h2⟩ := get_mem hg
        rw [← h2]
        exact (h.opn x h1).2.2.1 u hu
    · rw [List.mem_singleton.1 hu]
      exact ⟨hs, rfl⟩
  · have h3 := h.cap
    cases hg : G.get s.tr with
    | none => simp
    | some x =>
      have := (h.opn x (get_mem hg).1).2.1
      simp
      omega
theorem GSt.Ok.close {k : Nat} {G : GSt} (h : G.Ok k) (t : Tr) (l : List Sp) (hl : l ≠ [] ∧ (∀ s ∈ l, spChk s = 0 ∧ s.tr = t) ∧ l.length ≤ 32) (hk : G.cl.length + 1 + (GSt.delOf t G.op).length ≤ k) : (G.close t l).Ok k where
  clp p hp := by
    rw [close_cl] at hp
    rcases List.mem_append.1 hp with hp | hp
    · exact h.clp p hp
    · rw [List.mem_singleton.1 hp]
      exact ClP.mk hl.1 hl.2.2 hl.2.1
  win := h.win
  cap := h.cap
  now := h.now
  ops := h.ops.delOf
  opn x hx := by
    obtain ⟨h1, h2⟩ := mem_delOf.1 hx
    obtain ⟨q1, q2, q3, q4, q5, q6⟩ := h.opn x h1
    exact ⟨q1, q2, q3, q4, q5, fun e => (List.mem_append.1 e).elim q6 fun e => h2 (List.mem_singleton.1 e)⟩
  late := h.late
  num := by
    rw [close_cl, close_op, List.length_append, List.length_singleton]
    exact hk
theorem delOf_le (t : Tr) (l : List Opn) : (GSt.delOf t l).length ≤ l.length := List.length_filter_le ..
theorem GSt.Ok.add {k : Nat} {G : GSt} (h : G.Ok k) (s : Sp) : (G.add s).1.Ok (k + 1) := by
  rw [GSt.add_eq]
  split
  · exact h.mono (Nat.le_succ _)
  · rename_i hs
    have hs : spChk s = 0 := by simpa using hs
    split
    · exact { h with late := Nat.succ_le_succ h.late, num := Nat.le_succ_of_le h.num }
    · rename_i hall
      obtain ⟨l1, l2, l3⟩ := h.lst hs
      split
      · have := delOf_le s.tr G.op
        have := h.num
        exact (h.mono (Nat.le_succ k)).close _ _ ⟨l1, l2, l3⟩ (by omega)
      · rename_i hc
        exact { h with
          ops := h.ops.putIn
          opn := fun x hx => by
            rcases (mem_putIn h.ops x).1 hx with rfl | ⟨h1, h2⟩
            · exact ⟨l1, by show ((G.lst s).length : Int) < G.cap; omega, l2, h.now.1, Int.le_refl _, hall⟩
            · exact h.opn x h1
          late := Nat.le_succ_of_le h.late
          num := by
            have := putIn_length ⟨s.tr, G.lst s, G.now⟩ G.op
            have := h.num
            show G.cl.length + (GSt.putIn _ G.op).length ≤ _
            omega }
theorem GSt.Ok.closeDue {k : Nat} : ∀ {f : Nat} {G : GSt}, G.Ok k → (GSt.closeDue f G).Ok k
  | 0, G, h => h
  | f + 1, G, h => by
    unfold GSt.closeDue
    cases hf : GSt.first G.op with
    | none => exact h
    | some x =>
      simp only
      split
      · have hx := h.opn x (first_some hf).1
        have hcap := h.cap
        refine GSt.Ok.closeDue (h.close _ _ ⟨hx.1, hx.2.2.1, by omega⟩ ?_)
        have := delOf_lt (first_some hf).1
        have := h.num
        omega
      · exact h
theorem GSt.Ok.tick {k : Nat} {G : GSt} (h : G.Ok k) (n : Int) : (G.tick n).1.Ok k := by
  unfold GSt.tick
  split
  · exact h
  · rename_i hn
    refine GSt.Ok.closeDue ?_
    exact { h with
      now := ⟨by have := h.now; show 0 ≤ G.now + n; omega, by show G.now + n ≤ _; omega⟩
      opn := fun x hx => by
        obtain ⟨q1, q2, q3, q4, q5, q6⟩ := h.opn x hx
        exact ⟨q1, q2, q3, q4, by show x.time ≤ G.now + n; omega, q6⟩ }
/-- Next's answer. -/
def GSt.next (G : GSt) : GSt := { G with cl := G.cl.tail }
theorem GSt.Ok.next {k : Nat} {G : GSt} (h : G.Ok k) : G.next.Ok k := { h with clp := fun p hp => h.clp p (List.mem_of_mem_tail hp), num := by have := h.num; show G.cl.tail.length + G.op.length ≤ k; rw [List.length_tail]; omega }
theorem GSt.Ok.lenOf {k : Nat} {G : GSt} (h : G.Ok k) {t : Tr} {l : List Sp} {cl : List (Tr × List Sp)} (hc : G.cl = (t, l) :: cl) : l.length ≤ 32 := (h.clp (t, l) (by rw [hc]; exact List.mem_cons_self ..)).2.1
end Go.Proofs.YtoojpagpkbcfjaaGreat

