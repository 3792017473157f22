/- Texts of the proof of GatherScriptSaid, joined: GbC GbD GbE GbF GbG GbI GbH RgA. -/
import Derived.Test.YtoojpagpkbcfjaaGreatJGatherScript16
import Derived.Test.YtoojpagpkbcfjaaGreatJGatherScript8
import Derived.Test.YtoojpagpkbcfjaaGreatJGatherScript9
import Derived.Deep.Slices
import Derived.Test.YtoojpagpkbcfjaaGreatJGatherScript6
/- Layer 20: the contracts to use. -/
namespace Go.Proofs.YtoojpagpkbcfjaaGreat
open Go.RowKit
/-- Blocks that change, blocks that never do: they grow by new ones. -/
structure Gro (w w' : World) (K K' Z Z' : Nat → Prop) : Prop where
  k : ∀ b, K b → K' b
  z : ∀ b, Z b → Z' b
  kn : ∀ b, K' b → K b ∨ w.heap.size ≤ b
  zn : ∀ b, Z' b → Z b ∨ w.heap.size ≤ b
  fr : FrK w w' K
theorem Gro.refl {w w' : World} {K Z : Nat → Prop} (h : FrK w w' K) : Gro w w' K K Z Z := ⟨fun _ e => e, fun _ e => e, fun _ e => .inl e, fun _ e => .inl e, h⟩
theorem Gro.trans {w w' w'' : World} {K K' K'' Z Z' Z'' : Nat → Prop} (h : Gro w w' K K' Z Z') (k : Gro w' w'' K' K'' Z' Z'') : Gro w w'' K K'' Z Z'' :=
  ⟨fun b e => k.k b (h.k b e), fun b e => k.z b (h.z b e), fun b e => (k.kn b e).elim (h.kn b) fun e => .inr (Nat.le_trans h.fr.size e), fun b e => (k.zn b e).elim (h.zn b) fun e => .inr (Nat.le_trans h.fr.size e), h.fr.trans k.fr fun b hb e => (h.kn b e).elim id fun e => absurd e (by omega)⟩
/-- A gatherer at block F, k calls old: it says G. -/
def GaS (base : Nat) (w : World) (K Z : Nat → Prop) (F : Nat) (G : GSt) (k : Nat) : Prop := ∃ m, Gf base w K Z F G m ∧ m.ex = none ∧ m.dl.length ≤ k ∧ G.Ok k
theorem next_nil {G : GSt} (h : G.cl = []) : G.next = G := by
  obtain ⟨a, b, c, d, e, cl, l⟩ := G
  have : cl = [] := h
  subst this
  rfl
section
variable {base F k : Nat} {w w' : World} {K K' Z Z' : Nat → Prop} {G : GSt}
theorem GaS.ok (h : GaS base w K Z F G k) : G.Ok k := by
  obtain ⟨m, h1, h2, h3, h4⟩ := h
  exact h4
theorem GaS.lo (h : GaS base w K Z F G k) : ∀ b, K b → base ≤ b ∧ b < w.heap.size := by
  obtain ⟨m, h1, h2, h3, h4⟩ := h
  exact h1.lo
theorem GaS.loZ (h : GaS base w K Z F G k) : ∀ b, Z b → b < w.heap.size := by
  obtain ⟨m, h1, h2, h3, h4⟩ := h
  exact h1.loZ
theorem GaS.kz (h : GaS base w K Z F G k) : ∀ b, K b → ¬Z b := by
  obtain ⟨m, h1, h2, h3, h4⟩ := h
  exact h1.kz
theorem GaS.keep (h : GaS base w K Z F G k) (hf : FrK w w' K') (hd : ∀ b, K b → ¬K' b) (hdz : ∀ b, Z b → ¬K' b) : GaS base w' K Z F G k := by
  obtain ⟨m, h1, h2, h3, h4⟩ := h
  exact ⟨m, h1.keep hf hd hdz, h2, h3, h4⟩
theorem GaS.below (h : GaS base w K Z F G k) (hb : Below w.heap.size w w') : GaS base w' K Z F G k := by
  obtain ⟨m, h1, h2, h3, h4⟩ := h
  exact ⟨m, h1.below hb, h2, h3, h4⟩
theorem GaS.mono {k' : Nat} (h : GaS base w K Z F G k) (hk : k ≤ k') : GaS base w K Z F G k' := by
  obtain ⟨m, h1, h2, h3, h4⟩ := h
  exact ⟨m, h1, h2, Nat.le_trans h3 hk, h4.mono hk⟩
theorem seNew (w : World) (win cap : Int) (h : gaChk win cap = 0) : Calls Tryz.prog 6 #[.agg #[.int .i64 win, .int .i64 cap]] w fun e w' => ∃ F, e = .returned (.tuple #[ptV F, .int .i64 0]) ∧ GaS w.heap.size w' (fun b => w.heap.size ≤ b ∧ b < w'.heap.size) Kno F (GSt.new win cap) 0 ∧ Below w.heap.size w w' := by
  refine (gaNew w win cap h).mono ?_
  rintro e w' ⟨F, rfl, hF, ⟨m, h1, h2, h3⟩, hb⟩
  exact ⟨F, rfl, ⟨m, h3, h1, by rw [h2]; exact Nat.le_refl _, GSt.new_ok h⟩, hb⟩
theorem seAdd {s : Sp} {A : Option Addr} {n c : Nat} (h : GaS base w K Z F G k) (hk : k ≤ 1000) (ha : RbT w w.heap.size A s.tags) (hn : s.tags.length = n) (hnl : n ≤ 9223372036854775807) :
    Calls Tryz.prog 16 #[ptV F, spV s A n c] w fun e w' => e = .returned (.tuple #[.int .i64 ((G.add s).2.1 : Nat), .int .i64 ((G.add s).2.2 : Nat)]) ∧ ∃ K' Z', Gro w w' K K' Z Z' ∧ GaS base w' K' Z' F (G.add s).1 (k + 1) := by
  obtain ⟨m, h1, h2, h3, h4⟩ := h
  have hl : m.ce.length = G.cl.length := by rw [← h1.clsE]; simp [clsOf]
  have hnum := h4.num
  have hlate := h4.late
  have hcap := h4.cap
  refine (gaAdd h1 h2 h4.ops (by omega) (by omega) (fun x hx => ?_) ⟨hcap.1, by omega⟩ (by omega) ha hn hnl).mono ?_
  · obtain ⟨q1, q2, q3, -⟩ := h4.opn x hx
    exact ⟨by omega, q2, fun s hs => by have := chk_tags (q3 s hs).1; omega⟩
  · rintro e w' ⟨he, K', Z', m', k1, z1, kn, zn, ex, dl, ce, hG, hf⟩
    exact ⟨he, K', Z', ⟨k1, z1, kn, zn, hf⟩, m', hG, ex, by omega, h4.add s⟩
theorem seTick (h : GaS base w K Z F G k) (hk : k ≤ 1000) {n : Int} (hn : -9223372036854775808 ≤ n ∧ n ≤ 9223372036854775807) :
    Calls Tryz.prog 11 #[ptV F, .int .i64 n] w fun e w' => e = .returned (.int .i64 ((G.tick n).2 : Nat)) ∧ ∃ K' Z', Gro w w' K K' Z Z' ∧ GaS base w' K' Z' F (G.tick n).1 k := by
  obtain ⟨m, h1, h2, h3, h4⟩ := h
  have hnum := h4.num
  have hcap := h4.cap
  have hwin := h4.win
  refine (gaTick (N := k) h1 h2 h3 (by omega) ⟨by omega, by omega⟩ h4.now (fun x hx => ?_) (by omega) hn).mono ?_
  · obtain ⟨q1, q2, q3, q4, q5, -⟩ := h4.opn x hx
    exact ⟨by omega, fun s hs => by have := chk_tags (q3 s hs).1; omega, q4, q5⟩
  · rintro e w' ⟨he, K', Z', m', k1, z1, kn, zn, ex, dl, hG, hf⟩
    exact ⟨he, K', Z', ⟨k1, z1, kn, zn, hf⟩, m', hG, ex, dl, h4.tick n⟩
/-- A gatherer's Next. -/
def SeNextP (base : Nat) (w : World) (K Z : Nat → Prop) (F : Nat) (G : GSt) (k : Nat) (e : Ending) (w' : World) : Prop :=
  FrK w w' K ∧ GaS base w' K Z F G.next k ∧ ((G.cl = [] ∧ e = .returned (.tuple #[.agg #[.int .u64 0, .int .u64 0, .slice none 0 0], .int .i64 6])) ∨ ∃ t l cl c, G.cl = (t, l) :: cl ∧ e = .returned (.tuple #[clV c, .int .i64 0]) ∧ ClZ w' Z c ∧ c.t = t ∧ sps c.l = l)
theorem seNext (h : GaS base w K Z F G k) (hk : k ≤ 1000) : Calls Tryz.prog 13 #[ptV F] w (SeNextP base w K Z F G k) := by
  obtain ⟨m, h1, h2, h3, h4⟩ := h
  have hl : m.ce.length = G.cl.length := by rw [← h1.clsE]; simp [clsOf]
  have hnum := h4.num
  have hcl := h1.clsE
  refine (gaNext h1 (by omega)).mono ?_
  rintro e w' ⟨he, hf⟩
  refine ⟨hf, ?_⟩
  cases hce : m.ce with
  | nil =>
    rw [hce] at he hcl
    simp only at he
    obtain ⟨he, hG⟩ := he
    have hn : G.next = G := next_nil hcl.symm
    rw [hn]
    exact ⟨⟨m, hG, h2, h3, h4⟩, .inl ⟨hcl.symm, he⟩⟩
  | cons c ce =>
    rw [hce] at he hcl
    simp only at he
    obtain ⟨he, hz, cv', hG⟩ := he
    exact ⟨⟨_, hG, h2, h3, h4.next⟩, .inr ⟨c.t, sps c.l, clsOf ce, c, hcl.symm, he, hz, rfl, rfl⟩⟩
theorem seClosed (h : GaS base w K Z F G k) (hk : k ≤ 1000) : Calls Tryz.prog 19 #[ptV F] w (TrsP w (G.cl.map (·.1))) := by
  obtain ⟨m, h1, h2, h3, h4⟩ := h
  have := h4.num
  exact gaClosed h1 (by omega)
theorem seOpen (h : GaS base w K Z F G k) (hk : k ≤ 1000) : Calls Tryz.prog 21 #[ptV F] w (TrsP w (G.op.map (·.t))) := by
  obtain ⟨m, h1, h2, h3, h4⟩ := h
  have := h4.num
  exact gaOpen h1 h4.ops (by omega)
theorem seEver (h : GaS base w K Z F G k) (t : Tr) : Calls Tryz.prog 23 #[ptV F, trV t] w fun e w' => e = .returned (.bool (decide (t ∈ G.all))) ∧ Below w.heap.size w w' := by
  obtain ⟨m, h1, h2, h3, h4⟩ := h
  exact gaEver h1 t
theorem seLate (h : GaS base w K Z F G k) : Calls Tryz.prog 25 #[ptV F] w fun e w' => e = .returned (.int .i64 (G.late : Nat)) ∧ Below w.heap.size w w' := by
  obtain ⟨m, h1, h2, h3, h4⟩ := h
  exact gaLate h1
theorem seNow (h : GaS base w K Z F G k) : Calls Tryz.prog 27 #[ptV F] w fun e w' => e = .returned (.int .i64 G.now) ∧ Below w.heap.size w w' := by
  obtain ⟨m, h1, h2, h3, h4⟩ := h
  exact gaNow h1
theorem seDue (h : GaS base w K Z F G k) (hk : k ≤ 1000) : Calls Tryz.prog 29 #[ptV F] w fun e w' => e = .returned (.int .i64 G.due) ∧ FrK w w' K ∧ GaS base w' K Z F G k := by
  obtain ⟨m, h1, h2, h3, h4⟩ := h
  have hwin := h4.win
  refine (gaDue (N := k) h1 h2 h3 (by omega) ⟨by omega, by omega⟩ h4.now fun x hx => ?_).mono ?_
  · obtain ⟨q1, q2, q3, q4, q5, -⟩ := h4.opn x hx
    exact ⟨q4, q5⟩
  · rintro e w' ⟨he, ⟨m', ex, dl, hG⟩, hf⟩
    exact ⟨he, hf, m', hG, ex, dl, h4⟩
end
end Go.Proofs.YtoojpagpkbcfjaaGreat


/- Layer 20: the statements' own: one, example; SameTraces. -/
namespace Go.Proofs.YtoojpagpkbcfjaaGreat
open Go.RowKit
attribute [local go_sem ↓] loadTr_shut
/-- A span of a trace, an ID. -/
def gOne (t id : Nat) : Sp := ⟨0, t, id, 0, ⟨#[97]⟩, ⟨#[120]⟩, 0, 0, 0, false, []⟩
set_option maxRecDepth 100000 in
set_option maxHeartbeats 1000000 in
theorem gaOne (w : World) (t id : Nat) : Calls Tryz.prog 32 #[.int .u64 (t : Int), .int .u64 (id : Int)] w fun e w' => e = .returned (spV (gOne t id) none 0 0) ∧ Below w.heap.size w w' := by
  go_enter Tryz.func32, Tryz.ntmps32
  go_wp2_with fail
  try simp only [Exit.inBlock, Exit.then]
  refine bodyPost_ret (results_cell_row rfl _ _ w.heap.size 40 (spC (gOne t id) none 0 0) (0, 0) _ rfl ?_ Tryz.underlying40 rfl ?_) rfl ?_
  · show (w.alloc _).heap[w.heap.size]? = _
    rw [heap_alloc_new]
    rfl
  · rfl
  · exact ⟨rfl, (Below.refl _ w).alloc (Nat.le_refl _) _⟩
/-- The example's states. -/
def exG : GSt := ((((GSt.new 5 2).add (gOne 1 1)).1.tick 4).1.add (gOne 2 2)).1
theorem FrK.belowK {base : Nat} {w w' : World} {K : Nat → Prop} (h : FrK w w' K) (hk : ∀ b, K b → base ≤ b) (hb : base ≤ w.heap.size) : Below base w w' := h.below hb hk
set_option maxRecDepth 100000 in
set_option maxHeartbeats 2000000 in
theorem gaExample (w : World) : Calls Tryz.prog 31 #[] w fun e w' => ∃ F K Z, e = .returned (ptV F) ∧ GaS w.heap.size w' K Z F exG 2 ∧ Below w.heap.size w w' := by
  go_enter Tryz.func31, Tryz.ntmps31
  go_wp2_with fail
  refine (seNew w 5 2 (by decide)).mono ?_
  rintro e w1 ⟨F, rfl, h1, b1⟩
  have H1 := Lib.hid h1
  have B1 := Lib.hid b1
  clear h1 b1
  go_wp2_with fail
  refine (gaOne w1 1 1).mono ?_
  rintro e w2 ⟨rfl, b2⟩
  have h2 := H1.out.below b2
  have HB2 := Lib.hid (B1.out.trans (b2.mono B1.out.size))
  have H2 := Lib.hid h2
  clear h2 b2
  go_wp2_with fail
  refine (seAdd (s := gOne 1 1) (n := 0) H2.out (by omega) Rd.nil rfl (by omega)).mono ?_
  rintro e w3 ⟨rfl, K3, Z3, g3, h3⟩
  have HB3 := Lib.hid (HB2.out.trans (g3.fr.belowK (fun b hb => (H2.out.lo b hb).1) HB2.out.size))
  have H3 := Lib.hid h3
  clear h3 g3
  go_wp2_with fail
  refine (seTick H3.out (by omega) (n := 4) (by omega)).mono ?_
  rintro e w4 ⟨rfl, K4, Z4, g4, h4⟩
  have HB4 := Lib.hid (HB3.out.trans (g4.fr.belowK (fun b hb => (H3.out.lo b hb).1) HB3.out.size))
  have H4 := Lib.hid h4
  clear h4 g4
  go_wp2_with fail
  refine (gaOne w4 2 2).mono ?_
  rintro e w5 ⟨rfl, b5⟩
  have h5 := H4.out.below b5
  have HB5 := Lib.hid (HB4.out.trans (b5.mono HB4.out.size))
  have H5 := Lib.hid h5
  clear h5 b5
  go_wp2_with fail
  refine (seAdd (s := gOne 2 2) (n := 0) H5.out (by omega) Rd.nil rfl (by omega)).mono ?_
  rintro e w6 ⟨rfl, K6, Z6, g6, h6⟩
  have HB6 := Lib.hid (HB5.out.trans (g6.fr.belowK (fun b hb => (H5.out.lo b hb).1) HB5.out.size))
  have H6 := Lib.hid h6
  clear h6 g6
  go_wp2_with fail
  go_ret
  exact ⟨F, K6, Z6, rfl, H6.out, HB6.out⟩
set_option maxRecDepth 100000 in
set_option maxHeartbeats 4000000 in
theorem kitTraces {A1 A2 : Option Addr} {c1 c2 n m B : Nat} {la lb : List Tr} (w : World) (hf : Rd w B A1 (flatR trL la)) (hg : Rd w B A2 (flatR trL lb)) (hn : la.length = n) (hm : lb.length = m) (hB : B ≤ w.heap.size) (hnl : n ≤ 9223372036854775807) (hml : m ≤ 9223372036854775807) :
    Calls Tryz.prog 18 #[.slice A1 n c1, .slice A2 m c2] w fun e w' => e = .returned (.bool (decide (la = lb))) ∧ Below w.heap.size w w' := by
  obtain ⟨q, hq⟩ : ∃ q, decide (la = lb) = q := ⟨_, rfl⟩
  rw [hq]
  have HQ := Lib.hid hq
  have HN := Lib.hid hn
  have HM := Lib.hid hm
  have hqq := fun W x y => eqTr W x y
  clear hq hn hm
  by_cases hnm : n = m
  case neg =>
    have d1 : ((n : Int) != (m : Int)) = true := by rw [bne_iff_ne]; omega
    have hq0 : q = false := by
      rw [← HQ.out, decide_eq_false_iff_not]
      intro e
      have := congrArg List.length e
      rw [HN.out, HM.out] at this
      exact hnm this
    have HQ0 := Lib.hid hq0
    clear hq0
    go_enter Tryz.func18, Tryz.ntmps18
    go_wp2_with fail
    go_ret
    exact ⟨by rw [HQ0.out]; rfl, Below.refl _ _⟩
  subst hnm
  go_enter Tryz.func18, Tryz.ntmps18
  go_wp2_with fail
  go_loopw [5] (fun iv_ wr => ∃ j : Nat, j ≤ n ∧ iv_ = .int .i64 j ∧ Hid (la.take j = lb.take j) ∧ Hid (Below w.heap.size w wr)) (fun i _ => n - (intOf i).toNat)
  case atStart => exact ⟨0, by omega, rfl, Lib.hid rfl, Lib.hid (Below.refl _ _)⟩
  case round =>
    obtain ⟨j, hj, rfl, HA, HB⟩ := hrel
    by_cases hlt : j < n
    · have hlt' : (j : Int) < (n : Int) := by omega
      obtain ⟨x, hx⟩ : ∃ x, la[j]? = some x := ⟨_, List.getElem?_eq_getElem (by rw [HN.out]; exact hlt)⟩
      obtain ⟨y, hy⟩ : ∃ y, lb[j]? = some y := ⟨_, List.getElem?_eq_getElem (by rw [HM.out]; exact hlt)⟩
      have hbd : Below w.heap.size w wr.drew := below_drewN HB.out 1
      obtain ⟨b1, o1, rfl, hbb1, hc1⟩ := flatR_at trL_length (by omega) (Rd.below hf (hbd.mono hB)) hx
      obtain ⟨b2, o2, rfl, hbb2, hc2⟩ := flatR_at trL_length (by omega) (Rd.below hg (hbd.mono hB)) hy
      have hld1 : (loadK 37 ⟨b1, o1 + j * 2, none⟩).run Tryz.prog wr.drew = .ok (trV x) wr.drew :=
        run_loadVar_cells wr.drew _ _ ⟨b1, o1 + j * 2, none⟩ (trL x) Tryz.underlying37 rfl (by rfl) (fun k v hv => by
          rw [Addr.add_lit, Nat.add_assoc, hc1 k (by have := (List.getElem?_eq_some_iff.1 hv).1; simpa using this)]
          exact hv)
      have hld2 : (loadK 37 ⟨b2, o2 + j * 2, none⟩).run Tryz.prog wr.drew = .ok (trV y) wr.drew :=
        run_loadVar_cells wr.drew _ _ ⟨b2, o2 + j * 2, none⟩ (trL y) Tryz.underlying37 rfl (by rfl) (fun k v hv => by
          rw [Addr.add_lit, Nat.add_assoc, hc2 k (by have := (List.getElem?_eq_some_iff.1 hv).1; simpa using this)]
          exact hv)
      clear hc1 hc2 hqq
      by_cases hxy : x = y
      · have e1 : ((x.hi : Int) == (y.hi : Int)) = true := by rw [hxy]; simp
        have e2 : ((x.lo : Int) == (y.lo : Int)) = true := by rw [hxy]; simp
        have htk : la.take (j + 1) = lb.take (j + 1) := by
          rw [List.take_add_one, List.take_add_one, hx, hy, HA.out, hxy]
        have HT := Lib.hid htk
        have HBD := Lib.hid hbd
        clear htk hxy hx hy hbd
        go_wp2_with fail
        go_region_held3 (fun w' => (loadK 37 ⟨b1, o1 + j * 2, none⟩).run Tryz.prog w' = .ok (trV x) w' ∧ (loadK 37 ⟨b2, o2 + j * 2, none⟩).run Tryz.prog w' = .ok (trV y) w') (exact ⟨hld1, hld2⟩) (fail)
        clear hld1 hld2
        go_wp2_with fail
        exact ⟨⟨j + 1, by omega, by go_num, HT, HBD⟩, by simp only [intOf]; omega⟩
      · have hq0 : q = false := by
          rw [← HQ.out, decide_eq_false_iff_not]
          intro e
          rw [e, hy] at hx
          exact hxy (Option.some.inj hx).symm
        have HQ0 := Lib.hid hq0
        have HBD := Lib.hid hbd
        by_cases hh : x.hi = y.hi
        · have hl : x.lo ≠ y.lo := fun e => hxy (by cases x; cases y; simp at hh e; rw [hh, e])
          have e1 : ((x.hi : Int) == (y.hi : Int)) = true := by rw [hh]; simp
          have e2 : ((x.lo : Int) == (y.lo : Int)) = false := by rw [beq_eq_false_iff_ne]; omega
          clear hh hl hxy
          clear hx hy hbd hq0
          go_wp2_with fail
          go_region_held3 (fun w' => (loadK 37 ⟨b1, o1 + j * 2, none⟩).run Tryz.prog w' = .ok (trV x) w' ∧ (loadK 37 ⟨b2, o2 + j * 2, none⟩).run Tryz.prog w' = .ok (trV y) w') (exact ⟨hld1, hld2⟩) (fail)
          clear hld1 hld2
          go_wp2_with fail
          go_ret
          exact ⟨by rw [HQ0.out]; rfl, HBD.out⟩
        · have e1 : ((x.hi : Int) == (y.hi : Int)) = false := by rw [beq_eq_false_iff_ne]; omega
          clear hh hxy
          clear hx hy hbd hq0
          go_wp2_with fail
          go_region_held3 (fun w' => (loadK 37 ⟨b1, o1 + j * 2, none⟩).run Tryz.prog w' = .ok (trV x) w' ∧ (loadK 37 ⟨b2, o2 + j * 2, none⟩).run Tryz.prog w' = .ok (trV y) w') (exact ⟨hld1, hld2⟩) (fail)
          clear hld1 hld2
          go_wp2_with fail
          go_ret
          exact ⟨by rw [HQ0.out]; rfl, HBD.out⟩
    · obtain rfl : j = n := by omega
      have hq1 : q = true := by
        rw [← HQ.out, decide_eq_true_iff]
        have h1 := HA.out
        rw [List.take_of_length_le (by rw [HN.out]; exact Nat.le_refl _), List.take_of_length_le (by rw [HM.out]; exact Nat.le_refl _)] at h1
        exact h1
      have HQ1 := Lib.hid hq1
      clear hq1 hqq
      go_wp2_with fail
      go_ret
      exact ⟨by rw [HQ1.out]; rfl, HB.out⟩
end Go.Proofs.YtoojpagpkbcfjaaGreat


/- Layer 20: lives. -/
namespace Go.Proofs.YtoojpagpkbcfjaaGreat
open Go.RowKit
attribute [local go_sem ↓] loadTr_shut storeKG_shut
theorem ex_due : exG.due = 1 := by decide +kernel
theorem ex_tick : (exG.tick 1).2 = 0 := by decide +kernel
theorem ex_cl : (exG.tick 1).1.cl = [(⟨0, 1⟩, [gOne 1 1])] := by decide +kernel
set_option maxRecDepth 100000 in
theorem liS {w : World} {r n c : Nat} {A : Option Addr} (h : Bk w r 47 #[.int .u64 0, .int .u64 1, .slice A n c]) : (loadK 37 ⟨r, 0, none⟩).run Tryz.prog w = .ok (.agg #[.int .u64 0, .int .u64 1]) w ∧ w.cell? ⟨r, 2, none⟩ = some (.slice A n c) := by
  refine ⟨run_loadVar_cells w _ _ ⟨r, 0, none⟩ [.int .u64 0, .int .u64 1] Tryz.underlying37 rfl (by rfl) (fun j v hv => ?_), (h.cell 2).trans rfl⟩
  rw [Addr.add_lit, Nat.zero_add, h.cell j]
  match j, hv with
  | 0, hv => simpa using hv
  | 1, hv => simpa using hv
  | j + 2, hv => simp at hv
theorem RbS.allocG {w : World} {A : Option Addr} {l : List El} (h : RbS w w.heap.size A l) (o : Obj) : RbS (w.alloc o) (w.alloc o).heap.size A l := h.bS ((Below.refl _ w).alloc (Nat.le_refl _) o)
theorem rbOne {w : World} {g : Nat} {s : Sp} (hb : Bk w g 40 (spC s none 0 0)) (hs : s.tags = []) : RbS w w.heap.size (some ⟨g, 0, none⟩) [⟨s, none, 0, 0⟩] := by
  refine ⟨fun _ => ⟨g, 0, rfl, hb.lt, fun j u hu => ?_⟩, fun e he => ?_⟩
  · rw [Nat.zero_add, hb.cell j]
    simpa [els, elC] using hu
  · rw [List.mem_singleton.1 he]
    refine ⟨?_, ?_, Nat.zero_le _⟩
    · show RbT w w.heap.size none s.tags
      rw [hs]
      exact Rd.nil
    · show s.tags.length = 0
      rw [hs]
      rfl
theorem gaSames1 {A : Option Addr} {cc g : Nat} {l : List El} (w : World) (h : RbS w w.heap.size A l) (hb : Bk w g 40 (spC (gOne 1 1) none 0 0)) (hlen : l.length = 1) (hl : sps l = [gOne 1 1]) :
    Calls Tryz.prog 15 #[.slice A 1 cc, .slice (some ⟨g, 0, none⟩) 1 1] w fun e w' => e = .returned (.bool true) ∧ Below w.heap.size w w' := by
  have h1 := kitSames (c1 := cc) (c2 := 1) (m := 1) w h (rbOne hb rfl) hlen rfl (Nat.le_refl _) (by omega) (by omega)
  rw [hl, decide_eq_true (show [gOne 1 1] = sps [⟨gOne 1 1, none, 0, 0⟩] from rfl)] at h1
  exact h1
set_option maxRecDepth 100000 in
set_option maxHeartbeats 4000000 in
theorem gaLives (w : World) : Calls Tryz.prog 4 #[] w fun e w' => e = .returned (.bool true) ∧ Below w.heap.size w w' := by
  go_enter Tryz.func4, Tryz.ntmps4
  go_wp2_with fail
  refine (gaExample w).mono ?_
  rintro e w1 ⟨F, K1, Z1, rfl, h1, b1⟩
  have H1 := Lib.hid h1
  have B1 := Lib.hid b1
  clear h1 b1
  go_wp2_with fail
  refine (seDue H1.out (by omega)).mono ?_
  rintro e w2 ⟨rfl, f2, h2⟩
  rw [ex_due]
  have HB2 := Lib.hid (B1.out.trans (f2.belowK (fun b hb => (H1.out.lo b hb).1) B1.out.size))
  have H2 := Lib.hid h2
  clear h2 f2
  go_wp2_with fail
  refine (seTick H2.out (by omega) (n := 1) (by omega)).mono ?_
  rintro e w3 ⟨rfl, K3, Z3, g3, h3⟩
  rw [ex_tick]
  have HB3 := Lib.hid (HB2.out.trans (g3.fr.belowK (fun b hb => (H2.out.lo b hb).1) HB2.out.size))
  have H3 := Lib.hid h3
  clear h3 g3
  go_wp2_with fail
  refine (seNext H3.out (by omega)).mono ?_
  rintro e w4 ⟨f4, h4, h5⟩
  have hcl := ex_cl
  rcases h5 with ⟨h6, -⟩ | ⟨t, l, cl, c, h6, rfl, hz, ht, hl⟩
  · rw [hcl] at h6
    cases h6
  rw [hcl] at h6
  injection h6 with h6 _
  injection h6 with h6 h7
  subst h6 h7
  obtain ⟨ct, cl', A, cc⟩ := c
  simp only at ht hl
  subst ht
  have hb4 := HB3.out.trans (f4.belowK (fun b hb => (H3.out.lo b hb).1) HB3.out.size)
  have hlen : cl'.length = 1 := by rw [← sps_length, hl]; rfl
  have hv : clV ⟨⟨0, 1⟩, cl', A, cc⟩ = .agg #[.int .u64 0, .int .u64 1, .slice A 1 cc] := by simp [hlen]
  rw [hv]
  obtain ⟨w5, s5, k5, f5⟩ := gaBox (⟨⟨0, 1⟩, cl', A, cc⟩ : ClE) (Bk.new w4 47 #[.int .u64 0, .int .u64 0, .slice none 0 0]) rfl
  rw [hv] at s5
  have k5 : Bk w5 w4.heap.size 47 #[.int .u64 0, .int .u64 1, .slice A 1 cc] := by
    have e : (clC (⟨⟨0, 1⟩, cl', A, cc⟩ : ClE)).toArray = #[.int .u64 0, .int .u64 1, .slice A 1 cc] := by simp [clC, hlen]
    rw [← e]
    exact k5
  have F45 := ((FrK.refl w4 Kno).alloc (.cells #[.int .u64 0, .int .u64 0, .slice none 0 0] 47)).trans f5 fun b hb e => absurd (show b = w4.heap.size from e) (by omega)
  have hb5 := hb4.trans ((F45.below (Nat.le_refl _) fun b e => e.elim).mono hb4.size)
  have rd5 : RbS w5 w5.heap.size A cl' := (hz.rd.below (F45.below (Nat.le_refl _) fun b e => e.elim)).more F45.size
  have hbd : Below w.heap.size w w5.drew := below_drewN hb5 1
  have rdd : RbS w5.drew w5.drew.heap.size A cl' := rd5.below (Below.refl _ w5).drew
  have bkd : Bk w5.drew w4.heap.size 47 #[.int .u64 0, .int .u64 1, .slice A 1 cc] := k5
  clear h4 f4 hz k5 f5 F45 hb4 hv H1 B1 HB2 H2 HB3 H3 hcl hb5 rd5
  go_wp2_with fail
  go_region_held3 (fun w' => (loadK 37 ⟨w4.heap.size, 0, none⟩).run Tryz.prog w' = .ok (.agg #[.int .u64 0, .int .u64 1]) w' ∧ w'.cell? ⟨w4.heap.size, 2, none⟩ = some (.slice A 1 cc))
    (exact liS (by assumption))
    (first
      | (go_at_call 32
         refine (gaOne w5.drew 1 1).mono ?_
         rintro e w6 ⟨rfl, hb6⟩
         have b6 := bkd.below hb6 bkd.lt
         have rd6 := (rdd.below hb6).more hb6.size
         have hbw6 := hbd.trans (hb6.mono hbd.size)
         have b7 := b6.alloc (.cells (spC (gOne 1 1) none 0 0) 40)
         have rd7 := rd6.allocG (.cells (spC (gOne 1 1) none 0 0) 40)
         have hbw7 := hbw6.alloc hbw6.size (.cells (spC (gOne 1 1) none 0 0) 40)
         have lit7 := Bk.new w6 40 (spC (gOne 1 1) none 0 0))
      | (go_at_call 15
         refine (gaSames1 _ rd7 lit7 hlen hl).mono ?_
         rintro e w8 ⟨rfl, hb8⟩
         have b8 := b7.below hb8 b7.lt
         have hbw8 := hbw7.trans (hb8.mono hbw7.size))
      | fail)
  all_goals go_wp2_with fail
  all_goals go_ret
  all_goals exact ⟨rfl, hbw8⟩
end Go.Proofs.YtoojpagpkbcfjaaGreat


/- Layer 20: Next, where a closed trace waits; a box for what it tells. -/
namespace Go.Proofs.YtoojpagpkbcfjaaGreat
open Go.RowKit
attribute [local go_sem ↓] storeKG_shut
theorem ClZ.fr {base F k : Nat} {w w' : World} {K Z : Nat → Prop} {G : GSt} {e : ClE} (h : ClZ w Z e) (hg : GaS base w K Z F G k) (hf : FrK w w' K) : ClZ w' Z e :=
  h.keep (fun b hb => hf.block b (hg.loZ b hb) fun e => hg.kz b e hb) hf.size fun _ e => e
/-- Next, where a closed trace waits. -/
theorem seNext1 {base F k : Nat} {w : World} {K Z : Nat → Prop} {G : GSt} (h : GaS base w K Z F G k) (hk : k ≤ 1000) {t : Tr} {l : List Sp} {cl : List (Tr × List Sp)} {n : Nat} (hcl : G.cl = (t, l) :: cl) (hn : l.length = n) :
    Calls Tryz.prog 13 #[ptV F] w fun e w' => FrK w w' K ∧ GaS base w' K Z F G.next k ∧ ∃ A c l', e = .returned (.tuple #[.agg #[.int .u64 (t.hi : Nat), .int .u64 (t.lo : Nat), .slice A n c], .int .i64 0]) ∧ ClZ w' Z ⟨t, l', A, c⟩ ∧ sps l' = l ∧ l'.length = n := by
  refine (seNext h hk).mono ?_
  rintro e w' ⟨hf, hG, ⟨h1, -⟩ | ⟨t', l1, cl1, c, h1, rfl, hz, ht, hl⟩⟩
  · rw [hcl] at h1
    cases h1
  · rw [hcl] at h1
    injection h1 with h1 _
    injection h1 with h1 h2
    subst h1 h2
    obtain ⟨ct, l', A, cc⟩ := c
    simp only at ht hl
    subst ht
    have hlen : l'.length = n := by rw [← sps_length, hl, hn]
    exact ⟨hf, hG, A, cc, l', by subst hlen; rfl, hz, hl, hlen⟩
/-- A box for what Next tells. -/
theorem gaBox2 {W : World} {t : Tr} {l' : List El} {A : Option Addr} {c n : Nat} (hl : l'.length = n) : ∃ W2, (storeKG 47 ⟨W.heap.size, 0, none⟩ (.agg #[.int .u64 (t.hi : Nat), .int .u64 (t.lo : Nat), .slice A n c])).run Tryz.prog (W.alloc (.cells #[.int .u64 0, .int .u64 0, .slice none 0 0] 47)) = .ok () W2 ∧ Bk W2 W.heap.size 47 #[.int .u64 (t.hi : Nat), .int .u64 (t.lo : Nat), .slice A n c] ∧ FrK W W2 Kno := by
  subst hl
  obtain ⟨W2, s2, k2, f2⟩ := gaBox (⟨t, l', A, c⟩ : ClE) (Bk.new W 47 #[.int .u64 0, .int .u64 0, .slice none 0 0]) rfl
  exact ⟨W2, s2, k2, ((FrK.refl W Kno).alloc _).trans f2 fun b hb e => absurd (show b = W.heap.size from e) (by omega)⟩
end Go.Proofs.YtoojpagpkbcfjaaGreat


/- Layer 20, plain: ticks in pieces. -/
namespace Go.Proofs.YtoojpagpkbcfjaaGreat
open Go.RowKit
def GSt.at (G : GSt) (m : Int) : GSt := { G with now := m }
theorem close_at (G : GSt) (t : Tr) (l : List Sp) (m : Int) : (G.close t l).at m = (G.at m).close t l := rfl
theorem first_op {G : GSt} {x : Opn} (h : GSt.first G.op = some x) : (G.close x.t x.l).op.length < G.op.length := delOf_lt (first_some h).1
theorem closeDue_fuel : ∀ (f f' : Nat) (G : GSt), G.op.length ≤ f → G.op.length ≤ f' → GSt.closeDue f G = GSt.closeDue f' G
  | 0, 0, G, _, _ => rfl
  | 0, f' + 1, G, h, _ => by
    have h0 : G.op = [] := List.eq_nil_of_length_eq_zero (by omega)
    simp only [GSt.closeDue]
    rw [h0]
    rfl
  | f + 1, 0, G, _, h => by
    have h0 : G.op = [] := List.eq_nil_of_length_eq_zero (by omega)
    simp only [GSt.closeDue]
    rw [h0]
    rfl
  | f + 1, f' + 1, G, h, h' => by
    simp only [GSt.closeDue]
    cases hf : GSt.first G.op with
    | none => rfl
    | some x =>
      simp only
      have := first_op hf
      split
      · exact closeDue_fuel f f' _ (by omega) (by omega)
      · rfl
theorem closeDue_now : ∀ (f : Nat) (G : GSt), (GSt.closeDue f G).now = G.now
  | 0, G => rfl
  | f + 1, G => by
    simp only [GSt.closeDue]
    cases hf : GSt.first G.op with
    | none => rfl
    | some x =>
      simp only
      split
      · rw [closeDue_now f]
        rfl
      · rfl
theorem closeDue_later : ∀ (f : Nat) (G : GSt) (m : Int), G.op.length ≤ f → G.now ≤ m → GSt.closeDue f (G.at m) = GSt.closeDue (GSt.closeDue f G).op.length ((GSt.closeDue f G).at m)
  | 0, G, m, h, _ => by
    have h0 : G.op = [] := List.eq_nil_of_length_eq_zero (by omega)
    show G.at m = GSt.closeDue G.op.length (G.at m)
    rw [h0]
    rfl
  | f + 1, G, m, h, hm => by
    cases hf : GSt.first G.op with
    | none =>
      have h0 := first_none hf
      have e1 : GSt.closeDue (f + 1) G = G := by simp only [GSt.closeDue, hf]
      rw [e1]
      exact closeDue_fuel _ _ _ h (Nat.le_refl _)
    | some x =>
      by_cases hd : G.win ≤ G.now - x.time
      · have e1 : GSt.closeDue (f + 1) G = GSt.closeDue f (G.close x.t x.l) := by
          simp only [GSt.closeDue, hf]
          rw [if_pos hd]
        have e2 : GSt.closeDue (f + 1) (G.at m) = GSt.closeDue f ((G.close x.t x.l).at m) := by
          have hf' : GSt.first (G.at m).op = some x := hf
          simp only [GSt.closeDue, hf']
          rw [if_pos (show (G.at m).win ≤ (G.at m).now - x.time by show G.win ≤ m - x.time; omega)]
          rfl
        rw [e1, e2]
        have := first_op hf
        exact closeDue_later f (G.close x.t x.l) m (by omega) hm
      · have e1 : GSt.closeDue (f + 1) G = G := by
          simp only [GSt.closeDue, hf]
          rw [if_neg hd]
        rw [e1]
        exact closeDue_fuel _ _ _ h (Nat.le_refl _)
theorem tick_two (G : GSt) (n : Int) : (G.tick n).2 = 0 ∨ ((G.tick n).2 = 2 ∧ (G.tick n).1 = G) := by
  unfold GSt.tick
  split
  · exact .inr ⟨rfl, rfl⟩
  · exact .inl rfl
theorem tick_ok {G : GSt} {n : Int} (h : (G.tick n).2 = 0) : 0 ≤ n ∧ n ≤ 1152921504606846976 - G.now := by
  unfold GSt.tick at h
  split at h
  · cases h
  · omega
theorem tick_eq {G : GSt} {n : Int} (h : 0 ≤ n) (h' : n ≤ 1152921504606846976 - G.now) : G.tick n = (GSt.closeDue G.op.length (G.at (G.now + n)), 0) := by
  unfold GSt.tick
  rw [if_neg (by omega)]
  rfl
/-- A tick in two pieces. -/
theorem tick_split {G : GSt} {n k : Int} (h : (G.tick n).2 = 0) (h0 : 0 ≤ k) (h1 : k ≤ n) : (G.tick k).2 = 0 ∧ ((G.tick k).1.tick (n - k)).2 = 0 ∧ ((G.tick k).1.tick (n - k)).1 = (G.tick n).1 := by
  obtain ⟨q1, q2⟩ := tick_ok h
  have e1 := tick_eq (G := G) h0 (by omega)
  have en : (G.tick k).1.now = G.now + k := by
    rw [e1, closeDue_now]
    rfl
  have e2 := tick_eq (G := (G.tick k).1) (n := n - k) (by omega) (by rw [en]; omega)
  refine ⟨by rw [e1], by rw [e2], ?_⟩
  rw [e2, tick_eq q1 q2, en]
  show GSt.closeDue _ _ = GSt.closeDue _ _
  rw [e1]
  have := closeDue_later G.op.length (G.at (G.now + k)) (G.now + n) (Nat.le_refl _) (by show G.now + k ≤ _; omega)
  have e3 : G.now + k + (n - k) = G.now + n := by omega
  rw [e3]
  exact this.symm
end Go.Proofs.YtoojpagpkbcfjaaGreat


/- Layer 20: what comes in: a call (the law's Act), a list of them, a setup. -/
namespace Go.Proofs.YtoojpagpkbcfjaaGreat
open Go.ChangeShapes Go.WideShapes Go.ChangeAt Go.RowKit
def I64g (x : Int) : Prop := -9223372036854775808 ≤ x ∧ x ≤ 9223372036854775807
theorem i64_wfg {x : Int} (h : (Lit.int .i64 x).wf = true) : I64g x := by
  unfold I64g
  simp [Lit.wf, IntKind.min, IntKind.max, IntKind.signed, IntKind.bits] at h
  omega
/-- A call: its kind, its span (and where its tags lie), its ticks. -/
structure GAc where
  kind : Int
  e : El
  n : Int
def gacC (z : GAc) : List Value := (Value.int .i64 z.kind :: elC z.e) ++ [.int .i64 z.n]
theorem gacC_length (z : GAc) : (gacC z).length = 13 := rfl
structure GAcOk (w : World) (B : Nat) (z : GAc) : Prop where
  kind : I64g z.kind
  n : I64g z.n
  el : ElOk w B z.e
theorem thirteen {v : Array Value} (h : v.size = 13) : ∃ v0 v1 v2 v3 v4 v5 v6 v7 v8 v9 v10 v11 v12, v = #[v0, v1, v2, v3, v4, v5, v6, v7, v8, v9, v10, v11, v12] := by
  obtain ⟨l⟩ := v
  simp at h
  match l, h with
  | [v0, v1, v2, v3, v4, v5, v6, v7, v8, v9, v10, v11, v12], _ => exact ⟨v0, v1, v2, v3, v4, v5, v6, v7, v8, v9, v10, v11, v12, rfl⟩
set_option maxRecDepth 100000 in
theorem open_gacCells {H : Type} {enc : TypeId × Value → H} {W : World} {base : Nat} {held : Bool} {v0 v1 v2 v3 v4 v5 v6 v7 v8 v9 v10 v11 v12 : Value} {fuel : Nat} {x : DataW H × List MemPlace}
    (h : DataW.trod enc Tryz.prog W base (fun _ => true) held fuel 42 [v0, v1, v2, v3, v4, v5, v6, v7, v8, v9, v10, v11, v12] = some x) :
    ∃ z : GAc, [v0, v1, v2, v3, v4, v5, v6, v7, v8, v9, v10, v11, v12] = gacC z ∧ GAcOk W W.heap.size z := by
  obtain ⟨xs, n, _, hx, hlen, hyl, hf⟩ := DataW.trod_struct Tryz.underlying42 h
  match xs, hyl with
  | [y0, y1, y2], _ =>
    have cI : Tryz.prog.cellsOf 3 = 1 := by kernel_rfl
    have cS : Tryz.prog.cellsOf 40 = 11 := by kernel_rfl
    have cJ : Tryz.prog.cellsOf 2 = 1 := by kernel_rfl
    have h0 : DataW.trod enc Tryz.prog W base (fun _ => true) held n 3 (([v0, v1, v2, v3, v4, v5, v6, v7, v8, v9, v10, v11, v12].drop 0).take (Tryz.prog.cellsOf 3)) = some y0 := hf 0 _ rfl
    have h1 : DataW.trod enc Tryz.prog W base (fun _ => true) held n 40 (([v0, v1, v2, v3, v4, v5, v6, v7, v8, v9, v10, v11, v12].drop 1).take (Tryz.prog.cellsOf 40)) = some y1 := hf 1 _ rfl
    have h2 : DataW.trod enc Tryz.prog W base (fun _ => true) held n 2 (([v0, v1, v2, v3, v4, v5, v6, v7, v8, v9, v10, v11, v12].drop 12).take (Tryz.prog.cellsOf 2)) = some y2 := hf 2 _ rfl
    rw [cI] at h0
    rw [cS] at h1
    rw [cJ] at h2
    simp only [List.drop_zero, List.drop_succ_cons, List.take_succ_cons, List.take_zero] at h0 h1 h2
    obtain ⟨k0, e0, -, w0⟩ := DataW.trod_int Tryz.underlying3 h0
    obtain ⟨s, A, m, c, e1, i1⟩ := open_spCells h1
    obtain ⟨k2, e2, -, w2⟩ := DataW.trod_int Tryz.underlying2 h2
    simp at e0 e2
    subst e0 e2
    refine ⟨⟨k0, ⟨s, A, m, c⟩, k2⟩, ?_, ⟨i64_wfg w0, i64_wfg w2, i1.el⟩⟩
    show _ = (Value.int .i64 k0 :: (spC s A m c).toList) ++ [.int .i64 k2]
    rw [← e1]
    rfl
def gacV (z : GAc) : Value := .agg (gacC z).toArray
set_option maxRecDepth 100000 in
theorem open_inGAct {H : Type} {enc : TypeId × Value → H} {W : World} {base b0 : Nat} {r : Reach} {held : Bool} {v : Value} {d : DataW H} {p : List MemPlace} (hv : Value.okWide Tryz.prog W r b0 42 v)
    (h : DataW.Trod enc Tryz.prog W base (fun _ => true) held 42 v d p) : ∃ z : GAc, v = gacV z ∧ GAcOk W W.heap.size z := by
  obtain ⟨cs, rfl, hsz⟩ := okWide_struct Tryz.underlying42 hv
  obtain ⟨v0, v1, v2, v3, v4, v5, v6, v7, v8, v9, v10, v11, v12, rfl⟩ := thirteen (hsz.trans (by kernel_rfl))
  obtain ⟨fuel, hf⟩ := h
  have h8 : DataW.trod enc Tryz.prog W base (fun _ => true) held fuel 42 [v0, v1, v2, v3, v4, v5, v6, v7, v8, v9, v10, v11, v12] = some (d, p) := hf
  obtain ⟨z, hz, hok⟩ := open_gacCells h8
  exact ⟨z, by rw [gacV, ← hz], hok⟩
/-- Calls that came in. -/
structure InGActs (w : World) (A : Option Addr) (n c : Nat) (l : List GAc) : Prop where
  rd : Rd w w.heap.size A (flatR gacC l)
  len : l.length = n
  cap : n ≤ c
  max : c ≤ maxLen
  ok : ∀ z ∈ l, GAcOk w w.heap.size z
theorem listOfG {α : Type} (P : Nat → α → Prop) : ∀ (n : Nat), (∀ i, i < n → ∃ x, P i x) → ∃ l : List α, l.length = n ∧ ∀ i x, l[i]? = some x → P i x
  | 0, _ => ⟨[], rfl, fun i x h => by simp at h⟩
  | n + 1, h => by
    obtain ⟨l, hl, hp⟩ := listOfG P n fun i hi => h i (by omega)
    obtain ⟨x, hx⟩ := h n (by omega)
    refine ⟨l ++ [x], by simp [hl], fun i y hy => ?_⟩
    by_cases hi : i < l.length
    · rw [List.getElem?_append_left hi] at hy
      exact hp i y hy
    · have hin : i = n := by
        have := (List.getElem?_eq_some_iff.1 hy).1
        simp at this
        omega
      subst hin
      rw [List.getElem?_append_right (by omega), hl, Nat.sub_self] at hy
      simp at hy
      subst hy
      exact hx
set_option maxRecDepth 100000 in
theorem open_inGActs {H : Type} {enc : TypeId × Value → H} {W : World} {base b0 : Nat} {r : Reach} {held : Bool} {v : Value} {d : DataW H} {p : List MemPlace} (_hv : Value.okWide Tryz.prog W r b0 24 v)
    (h : DataW.Trod enc Tryz.prog W base (fun _ => true) held 24 v d p) :
    ∃ (A : Option Addr) (n c : Nat) (l : List GAc), v = .slice A n c ∧ InGActs W A n c l := by
  obtain ⟨aa, len, cap, rfl⟩ := okWide_slice Tryz.underlying24 _hv
  obtain ⟨fuel, hf⟩ := h
  rcases Deep.open_slice Tryz.underlying24 hf with ⟨hcs, _⟩ | ⟨a, len, cap, m, n, D, Pl, hcs, hb, hl, hm, hmm, hx, hi⟩
  · simp [Value.cells] at hcs
    obtain ⟨rfl, rfl, rfl⟩ := hcs
    exact ⟨none, 0, 0, [], rfl, ⟨fun hn => absurd rfl hn, rfl, Nat.le_refl _, by simp [maxLen], fun e he => by cases he⟩⟩
  · simp [Value.cells] at hcs
    obtain ⟨rfl, rfl, rfl⟩ := hcs
    rw [if_pos rfl] at hmm
    subst hmm
    have hC : Tryz.prog.cellsOf 42 = 13 := by kernel_rfl
    rw [hC] at hi
    obtain ⟨l, hll, hl2⟩ := listOfG (fun i (e : GAc) => (∀ j, j < 13 → W.cell? ((a.add (i * 13)).add j) = (gacC e)[j]?) ∧ GAcOk W W.heap.size e) len fun i hil => by
      obtain ⟨cs', hc, ht⟩ := hi i (by omega)
      obtain ⟨_, hcl, hat⟩ := World.cells?_some hc
      match cs', hcl with
      | [c0, c1, c2, c3, c4, c5, c6, c7, c8, c9, c10, c11, c12], _ =>
        obtain ⟨e, he, hok⟩ := open_gacCells ht
        refine ⟨e, fun j hj => ?_, hok⟩
        have h1 := hat j hj
        rw [he] at h1
        exact h1
    refine ⟨some a, _, _, l, rfl, ⟨?_, hll, hl, hm, ?_⟩⟩
    · intro hne
      have hpos : 0 < l.length := by
        rcases Nat.eq_zero_or_pos l.length with h0 | h0
        · rw [List.eq_nil_of_length_eq_zero h0] at hne
          exact absurd rfl hne
        · exact h0
      obtain ⟨x0, hx0⟩ : ∃ x0, l[0]? = some x0 := ⟨_, List.getElem?_eq_getElem hpos⟩
      obtain ⟨b, off, spot⟩ := a
      have h0 := (hl2 0 x0 hx0).1 0 (by omega)
      simp only [Nat.zero_mul, Addr.add] at h0
      have h1 : (gacC x0)[0]? = some (.int .i64 x0.kind) := rfl
      rw [h1] at h0
      have hspot : spot = none := by simpa using World.cell?_spot h0
      subst hspot
      refine ⟨b, off, rfl, World.block_lt_of_cell? W ⟨b, off, none⟩ (by simpa using h0), fun j u hu => ?_⟩
      have hj : j < l.length * 13 := by
        have := (List.getElem?_eq_some_iff.1 hu).1
        rwa [flatR_length gacC_length] at this
      obtain ⟨x1, hx1⟩ : ∃ x1, l[j / 13]? = some x1 := ⟨_, List.getElem?_eq_getElem (by omega)⟩
      have h2 := (hl2 (j / 13) x1 hx1).1 (j % 13) (Nat.mod_lt _ (by omega))
      have h3 := flatR_get gacC_length hx1 (j % 13) (Nat.mod_lt _ (by omega))
      rw [Addr.add_lit, Addr.add_lit, Nat.add_assoc, show j / 13 * 13 + j % 13 = j from by omega] at h2
      rw [show j / 13 * 13 + j % 13 = j from by omega] at h3
      rw [h2, ← h3, hu]
    · intro e he
      obtain ⟨i, hi, hxi⟩ := List.getElem_of_mem he
      exact (hl2 i e (by rw [List.getElem?_eq_getElem hi, hxi])).2
theorem two {v : Array Value} (h : v.size = 2) : ∃ v0 v1, v = #[v0, v1] := by
  obtain ⟨l⟩ := v
  simp at h
  match l, h with
  | [v0, v1], _ => exact ⟨v0, v1, rfl⟩
set_option maxRecDepth 100000 in
theorem open_inSetup {H : Type} {enc : TypeId × Value → H} {W : World} {base b0 : Nat} {r : Reach} {held : Bool} {v : Value} {d : DataW H} {p : List MemPlace} (hv : Value.okWide Tryz.prog W r b0 23 v)
    (h : DataW.Trod enc Tryz.prog W base (fun _ => true) held 23 v d p) : ∃ win cap : Int, v = .agg #[.int .i64 win, .int .i64 cap] ∧ I64g win ∧ I64g cap := by
  obtain ⟨cs, rfl, hsz⟩ := okWide_struct Tryz.underlying23 hv
  obtain ⟨v0, v1, rfl⟩ := two (hsz.trans (by kernel_rfl))
  obtain ⟨fuel, hf⟩ := h
  have h8 : DataW.trod enc Tryz.prog W base (fun _ => true) held fuel 23 [v0, v1] = some (d, p) := hf
  obtain ⟨xs, n, _, hx, hlen, hyl, hf⟩ := DataW.trod_struct Tryz.underlying23 h8
  match xs, hyl with
  | [y0, y1], _ =>
    have cI : Tryz.prog.cellsOf 3 = 1 := by kernel_rfl
    have cJ : Tryz.prog.cellsOf 2 = 1 := by kernel_rfl
    have h0 : DataW.trod enc Tryz.prog W base (fun _ => true) held n 2 (([v0, v1].drop 0).take (Tryz.prog.cellsOf 2)) = some y0 := hf 0 _ rfl
    have h1 : DataW.trod enc Tryz.prog W base (fun _ => true) held n 3 (([v0, v1].drop 1).take (Tryz.prog.cellsOf 3)) = some y1 := hf 1 _ rfl
    rw [cJ] at h0
    rw [cI] at h1
    simp only [List.drop_zero, List.drop_succ_cons, List.take_succ_cons, List.take_zero] at h0 h1
    obtain ⟨k0, e0, -, w0⟩ := DataW.trod_int Tryz.underlying2 h0
    obtain ⟨k1, e1, -, w1⟩ := DataW.trod_int Tryz.underlying3 h1
    simp at e0 e1
    subst e0 e1
    exact ⟨k0, k1, rfl, i64_wfg w0, i64_wfg w1⟩
end Go.Proofs.YtoojpagpkbcfjaaGreat


/- Layer 20: the law's calls: small; a call's box; two gatherers side by side. -/
namespace Go.Proofs.YtoojpagpkbcfjaaGreat
open Go.RowKit
def storeKA (t : TypeId) (a : Addr) (v : Value) : Sem Unit := storeVar t a v
theorem storeKA_shut (a : Addr) (v : Value) : storeVar 42 a v = storeKA 42 a v := rfl
theorem loadAc_shut (a : Addr) : loadVar 42 a = loadK 42 a := rfl
attribute [local go_sem ↓] storeKA_shut loadTr_shut loadSp_shut loadAc_shut
theorem gacC_one (z : GAc) : ∀ u ∈ gacC z, u.oneCell' = true := by
  intro u hu
  simp [gacC, elC] at hu
  rcases hu with rfl | rfl | rfl | rfl | rfl | rfl | rfl | rfl | rfl | rfl | rfl | rfl | rfl <;> rfl
set_option maxRecDepth 100000 in
theorem acBox {W : World} (z : GAc) {r : Nat} {cs : Array Value} (hB : Bk W r 42 cs) (hcs : cs.size = 13) : ∃ W2, (storeKA 42 ⟨r, 0, none⟩ (gacV z)).run Tryz.prog W = .ok () W2 ∧ Bk W2 r 42 (gacC z).toArray ∧ FrK W W2 (Kis r) := by
  have hst := run_storeVar_row (P := Tryz.prog) W r 0 42 42 (gacC z).toArray cs hB (by simp [gacC_length]; omega) (fun u hu => gacC_one z u (by simpa using hu)) (by rfl)
  have h2 := setRow_heap W r cs (cs.toList.take 0 ++ (gacC z).toArray.toList ++ cs.toList.drop (0 + (gacC z).toArray.size)).toArray _ _ hB
  have e : (cs.toList.take 0 ++ (gacC z).toArray.toList ++ cs.toList.drop (0 + (gacC z).toArray.size)).toArray = (gacC z).toArray := by
    have h3 : cs.toList.drop (0 + (gacC z).toArray.size) = [] := List.drop_eq_nil_of_le (by simp [gacC_length]; omega)
    rw [h3]
    simp
  rw [e] at h2 hst
  exact ⟨_, hst, h2, FrK.of_grown (only_row r _) fun b _ e => (Option.some.inj e).symm⟩
set_option maxRecDepth 100000 in
theorem ldAc {w : World} {b o : Nat} {z : GAc} (h : ∀ j, j < 13 → w.cell? ⟨b, o + j, none⟩ = (gacC z)[j]?) : (loadK 42 ⟨b, o, none⟩).run Tryz.prog w = .ok (gacV z) w :=
  run_loadVar_cells w _ _ ⟨b, o, none⟩ (gacC z) Tryz.underlying42 rfl (by rfl) (fun j v hv => by
    rw [Addr.add_lit, h j (List.getElem?_eq_some_iff.1 hv).1]
    exact hv)
set_option maxRecDepth 100000 in
theorem ldSpL {w : World} {b o : Nat} {z : GAc} (h : ∀ j, j < 13 → w.cell? ⟨b, o + j, none⟩ = (gacC z)[j]?) : (loadK 40 ⟨b, o + 1, none⟩).run Tryz.prog w = .ok (spV z.e.s z.e.A z.e.n z.e.c) w :=
  run_loadVar_cells w _ _ ⟨b, o + 1, none⟩ (elC z.e) Tryz.underlying40 rfl (by rfl) (fun j v hv => by
    have hj : j < 11 := (List.getElem?_eq_some_iff.1 hv).1
    rw [Addr.add_lit, Nat.add_assoc, h (1 + j) (by omega), ← hv, Nat.add_comm]
    simp only [gacC, List.cons_append, List.getElem?_cons_succ]
    rw [List.getElem?_append_left (by rw [elC_length]; exact hj)])
set_option maxRecDepth 100000 in
theorem ldSpB {w : World} {g : Nat} {z : GAc} (h : Bk w g 42 (gacC z).toArray) : (loadK 40 ⟨g, 1, none⟩).run Tryz.prog w = .ok (spV z.e.s z.e.A z.e.n z.e.c) w := by
  have h1 := ldSpL (w := w) (b := g) (o := 0) (z := z) fun j hj => by
    rw [Nat.zero_add, h.cell j]
    simp
  exact h1
set_option maxRecDepth 100000 in
theorem ldTrB {w : World} {g o : Nat} {t : TypeId} {cs : Array Value} {a b : Nat} (h : Bk w g t cs) (h0 : cs[o]? = some (.int .u64 (a : Nat))) (h1 : cs[o + 1]? = some (.int .u64 (b : Nat))) : (loadK 37 ⟨g, o, none⟩).run Tryz.prog w = .ok (trV ⟨a, b⟩) w :=
  run_loadVar_cells w _ _ ⟨g, o, none⟩ [.int .u64 (a : Nat), .int .u64 (b : Nat)] Tryz.underlying37 rfl (by rfl) (fun j v hv => by
    rw [Addr.add_lit, h.cell]
    match j, hv with
    | 0, hv => rw [Nat.add_zero, h0]; exact hv
    | 1, hv => rw [h1]; exact hv
    | j + 2, hv => simp at hv)
/-- What small comes to. -/
def GSmallP (w : World) (n : Nat) (e : Ending) (w' : World) : Prop := (∃ q, e = .returned (.bool q) ∧ (q = true → n ≤ 150)) ∧ Below w.heap.size w w'
set_option maxRecDepth 100000 in
set_option maxHeartbeats 2000000 in
/-- small: at most 150 calls, if it says so. -/
theorem gaSmall {A : Option Addr} {n c B : Nat} {l : List GAc} (w : World) (hr : Rd w B A (flatR gacC l)) (hn : l.length = n) (hB : B ≤ w.heap.size) (hnm : n ≤ maxLen) (hok : ∀ z ∈ l, ElOk w B z.e) :
    Calls Tryz.prog 5 #[.slice A n c] w (GSmallP w n) := by
  simp only [maxLen] at hnm
  have HN := Lib.hid hn
  have HR := Lib.hid hr
  have HO := Lib.hid hok
  clear hn hr hok
  go_enter Tryz.func5, Tryz.ntmps5
  go_wp2_with fail
  go_loopw [3] (fun i_ wr => ∃ k : Nat, k ≤ n ∧ i_ = .int .i64 k ∧ Hid (Below w.heap.size w wr)) (fun i_ _ => n - (intOf i_).toNat)
  case atStart => exact ⟨0, Nat.zero_le _, rfl, Lib.hid (Below.refl _ _)⟩
  case round =>
    obtain ⟨k, hk, rfl, HB⟩ := hrel
    by_cases hlt : k < n
    · have hlt' : (k : Int) < (n : Int) := by omega
      by_cases h150 : k ≤ 150
      · have h150' : (k : Int) ≤ 150 := by omega
        obtain ⟨z, hz⟩ : ∃ z, l[k]? = some z := ⟨_, List.getElem?_eq_getElem (by rw [HN.out]; exact hlt)⟩
        obtain ⟨b, o, rfl, -, hc⟩ := flatR_at gacC_length (by omega) (Rd.below HR.out (HB.out.mono hB)) hz
        have l1 := ldSpL (w := wr) (b := b) (o := o + k * 13) (z := z) fun j hj => by
          rw [Nat.add_assoc]
          exact hc j hj
        have hel := (HO.out z (List.mem_of_getElem? hz)).below (HB.out.mono hB)
        have CS := Lib.hid (kitSmall (c := z.e.c) z.e.s 200 wr hel.rd hel.len (Nat.le_trans hB HB.out.size) hel.max)
        obtain ⟨q, hq⟩ : ∃ q, smallB z.e.s 200 = q := ⟨_, rfl⟩
        rw [hq] at CS
        clear hc hz hel hq
        cases q with
        | false =>
          go_wp2_with fail
          refine CS.out.mono ?_
          rintro e w2 ⟨rfl, hb2⟩
          go_wp2_with fail
          go_ret
          exact ⟨⟨false, rfl, fun h => by cases h⟩, HB.out.trans (hb2.mono HB.out.size)⟩
        | true =>
          go_wp2_with fail
          refine CS.out.mono ?_
          rintro e w2 ⟨rfl, hb2⟩
          have HB2 := Lib.hid (HB.out.trans (hb2.mono HB.out.size))
          clear hb2
          go_wp2_with fail
          exact ⟨⟨k + 1, by omega, by go_num, HB2⟩, by simp only [intOf]; omega⟩
      · have h150' : ¬(k : Int) ≤ 150 := by omega
        have h1 : ¬ (n : Int) ≤ 150 := by omega
        go_wp2_with fail
        go_ret
        exact ⟨⟨false, rfl, fun h => by cases h⟩, HB.out⟩
    · have hlt' : ¬ (k : Int) < (n : Int) := by omega
      by_cases h1 : n ≤ 150
      · have h1' : (n : Int) ≤ 150 := by omega
        go_wp2_with fail
        go_ret
        exact ⟨⟨true, rfl, fun _ => h1⟩, HB.out⟩
      · have h1' : ¬(n : Int) ≤ 150 := by omega
        go_wp2_with fail
        go_ret
        exact ⟨⟨false, rfl, fun h => by cases h⟩, HB.out⟩
/-- Two gatherers, side by side. -/
structure GaTw (b1 b2 : Nat) (w : World) (K1 Z1 : Nat → Prop) (F1 : Nat) (G1 : GSt) (k1 : Nat) (K2 Z2 : Nat → Prop) (F2 : Nat) (G2 : GSt) (k2 : Nat) : Prop where
  a : GaS b1 w K1 Z1 F1 G1 k1
  b : GaS b2 w K2 Z2 F2 G2 k2
  kk : ∀ b, K1 b → ¬K2 b
  kz : ∀ b, K1 b → ¬Z2 b
  zk : ∀ b, K2 b → ¬Z1 b
section
variable {b1 b2 F1 F2 k1 k2 : Nat} {w w' : World} {K1 Z1 K2 Z2 : Nat → Prop} {G1 G2 : GSt}
theorem GaTw.swap (h : GaTw b1 b2 w K1 Z1 F1 G1 k1 K2 Z2 F2 G2 k2) : GaTw b2 b1 w K2 Z2 F2 G2 k2 K1 Z1 F1 G1 k1 := ⟨h.b, h.a, fun b e f => h.kk b f e, h.zk, h.kz⟩
theorem GaTw.below (h : GaTw b1 b2 w K1 Z1 F1 G1 k1 K2 Z2 F2 G2 k2) (hb : Below w.heap.size w w') : GaTw b1 b2 w' K1 Z1 F1 G1 k1 K2 Z2 F2 G2 k2 := { h with a := h.a.below hb, b := h.b.below hb }
theorem GaTw.fst (h : GaTw b1 b2 w K1 Z1 F1 G1 k1 K2 Z2 F2 G2 k2) {K1' Z1' : Nat → Prop} {G1' : GSt} {k1' : Nat} (g : Gro w w' K1 K1' Z1 Z1') (a : GaS b1 w' K1' Z1' F1 G1' k1') : GaTw b1 b2 w' K1' Z1' F1 G1' k1' K2 Z2 F2 G2 k2 where
  a := a
  b := h.b.keep g.fr (fun b e f => h.kk b f e) fun b e f => h.kz b f e
  kk b e f := (g.kn b e).elim (fun e => h.kk b e f) fun e => by have := (h.b.lo b f).2; omega
  kz b e f := (g.kn b e).elim (fun e => h.kz b e f) fun e => by have := h.b.loZ b f; omega
  zk b e f := (g.zn b f).elim (fun f => h.zk b e f) fun f => by have := (h.b.lo b e).2; omega
theorem GaTw.snd (h : GaTw b1 b2 w K1 Z1 F1 G1 k1 K2 Z2 F2 G2 k2) {K2' Z2' : Nat → Prop} {G2' : GSt} {k2' : Nat} (g : Gro w w' K2 K2' Z2 Z2') (b : GaS b2 w' K2' Z2' F2 G2' k2') : GaTw b1 b2 w' K1 Z1 F1 G1 k1 K2' Z2' F2 G2' k2' := (h.swap.fst g b).swap
end
end Go.Proofs.YtoojpagpkbcfjaaGreat


/- Layer 20, the document's side: its gatherer as it lies. -/
namespace Go.Proofs.YtoojpagpkbcfjaaGreat
open Go.RowKit
/-- An open trace as it lies. -/
structure OE where
  t : Tr
  l : List El
  A : Option Addr
  c : Nat
  time : Int
def oeC (e : OE) : List Value := [.int .u64 (e.t.hi : Nat), .int .u64 (e.t.lo : Nat), .slice e.A e.l.length e.c, .int .i64 e.time]
theorem oeC_length (e : OE) : (oeC e).length = 4 := rfl
theorem oeC_one (e : OE) : ∀ u ∈ oeC e, u.oneCell' = true := by
  intro u hu
  simp [oeC] at hu
  rcases hu with rfl | rfl | rfl | rfl <;> rfl
abbrev oeV (e : OE) : Value := .agg #[.int .u64 (e.t.hi : Nat), .int .u64 (e.t.lo : Nat), .slice e.A e.l.length e.c, .int .i64 e.time]
abbrev oeR (e : OE) : Value := .slice e.A e.l.length e.c
def oeO (e : OE) : Opn := ⟨e.t, sps e.l, e.time⟩
/-- Where all lies. -/
structure RM where
  ov : Value
  oe : List OE
  cv : Value
  ce : List ClE
  av : Value
def rgC (G : GSt) (m : RM) : Array Value := #[.bool true, .int .i64 G.win, .int .i64 G.cap, .int .i64 G.now, m.ov, m.cv, m.av, .int .i64 (G.late : Nat)]
/-- The document's gatherer at block F. -/
structure Rga (base : Nat) (w : World) (K Z : Nat → Prop) (F : Nat) (G : GSt) (m : RM) : Prop where
  blk : Bk w F 72 (rgC G m)
  o : w.ownsRow base 79 4 m.ov m.oe.length (flatR oeC m.oe)
  oE : m.oe.map oeO = G.op
  row : ∀ e ∈ m.oe, w.ownsRow base 40 11 (oeR e) e.l.length (els e.l)
  el : ∀ e ∈ m.oe, ∀ x ∈ e.l, ElZ w Z x
  inj : ∀ e ∈ m.oe, ∀ f ∈ m.oe, ∀ g, (oeR e).ownBlock = some g → (oeR f).ownBlock = some g → e.t = f.t
  cls : ClQ w base m.cv m.ce
  clsE : clsOf m.ce = G.cl
  clz : ∀ e ∈ m.ce, ClZ w Z e
  all : w.ownsRow base 37 2 m.av G.all.length (flatR trL G.all)
  kF : K F
  kO : ∀ g, m.ov.ownBlock = some g → K g
  kR : ∀ e ∈ m.oe, ∀ g, (oeR e).ownBlock = some g → K g
  kC : ∀ g, m.cv.ownBlock = some g → K g
  kA : ∀ g, m.av.ownBlock = some g → K g
  kz : ∀ b, K b → ¬Z b
  lo : ∀ b, K b → base ≤ b ∧ b < w.heap.size
  loZ : ∀ b, Z b → b < w.heap.size
section
variable {base F : Nat} {w w' : World} {K K' Z Z' : Nat → Prop} {G : GSt} {m : RM}
/-- What leaves its blocks alone keeps it. -/
theorem Rga.keep (h : Rga base w K Z F G m) (hf : FrK w w' K') (hd : ∀ b, K b → ¬K' b) (hdz : ∀ b, Z b → ¬K' b) : Rga base w' K Z F G m :=
  have hb : ∀ b, K b → w'.heap[b]? = w.heap[b]? := fun b hb => hf.block b (h.lo b hb).2 (hd b hb)
  have hz : ∀ b, Z b → w'.heap[b]? = w.heap[b]? := fun b hb => hf.block b (h.loZ b hb) (hdz b hb)
  { h with
    blk := (hb _ h.kF).trans h.blk
    o := own_of h.o fun g e => hb g (h.kO g e)
    row := fun x hx => own_of (h.row x hx) fun g e => hb g (h.kR x hx g e)
    el := fun x hx e he => (h.el x hx e he).keep hz hf.size fun _ e => e
    cls := h.cls.keep fun g e => hb g (h.kC g e)
    clz := fun e he => (h.clz e he).keep hz hf.size fun _ e => e
    all := own_of h.all fun g e => hb g (h.kA g e)
    lo := fun b e => ⟨(h.lo b e).1, Nat.lt_of_lt_of_le (h.lo b e).2 hf.size⟩
    loZ := fun b e => Nat.lt_of_lt_of_le (h.loZ b e) hf.size }
theorem Rga.below (h : Rga base w K Z F G m) (hb : Below w.heap.size w w') : Rga base w' K Z F G m := h.keep (FrK.of_below hb (Nat.le_refl _) Kno) (fun _ _ hf => hf) fun _ _ hf => hf
theorem Rga.baseLe (h : Rga base w K Z F G m) : base ≤ w.heap.size := by
  have := h.lo F h.kF
  omega
theorem Rga.oN (h : Rga base w K Z F G m) : m.oe.length = G.op.length := by rw [← h.oE, List.length_map]
theorem Rga.ceN (h : Rga base w K Z F G m) : m.ce.length = G.cl.length := by rw [← h.clsE]; simp [clsOf]
theorem Rga.at {i : Nat} {e : OE} (h : Rga base w K Z F G m) (hi : m.oe[i]? = some e) : G.op[i]? = some (oeO e) := by
  rw [← h.oE, List.getElem?_map, hi]
  rfl
end
end Go.Proofs.YtoojpagpkbcfjaaGreat

